/- Phases of the program and of the document. Conditions: those that each theorem names, and no others. -/
import Derived.Test.YtchekpapgfojhaaGreatDoorBack1
namespace Go.Proofs.YtchekpapgfojhaaGreatDoor.ctlsFallback
open Go Go.Mini
/-! ### numbers -/
theorem w_and (x k : Nat) (hx : x < 18446744073709551616) (hk : k < 64) : some (AV.int IntKind.u64 (Int.ofNat ((BitVec.ofInt IntKind.u64.bits (Int.ofNat x) &&& BitVec.ofInt IntKind.u64.bits (IntKind.u64.wrap (IntKind.u64.wrap (1 * 2 ^ min (Int.toNat (Int.ofNat k)) IntKind.u64.bits) - 1))).toNat % ((2 : Int) ^ IntKind.u64.bits).natAbs))) = some (AV.int .u64 (Int.ofNat (x % 2 ^ k))) := by
  rw [and_maskK x k hx hk, nat64, Nat.mod_eq_of_lt (Nat.lt_of_le_of_lt (Nat.mod_le _ _) hx)]
theorem w_shl (x k : Nat) (hk : k ≤ 64) (hx : x * 2 ^ k < 18446744073709551616) : some (AV.int IntKind.u64 (Int.ofNat (x * 2 ^ min (Int.toNat (Int.ofNat k)) IntKind.u64.bits % ((2 : Int) ^ IntKind.u64.bits).natAbs))) = some (AV.int .u64 (Int.ofNat (x * 2 ^ k))) := by
  rw [nat64, bits64, show min (Int.toNat (Int.ofNat k)) 64 = k from by simp only [Int.ofNat_eq_natCast, Int.toNat_natCast]; omega, Nat.mod_eq_of_lt hx]
theorem w_or (x y k : Nat) (hx : x < 2 ^ k) (hk : k ≤ 63) (hy : y * 2 ^ k < 18446744073709551616) : some (AV.int IntKind.u64 (Int.ofNat ((BitVec.ofInt IntKind.u64.bits (Int.ofNat x) ||| BitVec.ofInt IntKind.u64.bits (Int.ofNat (y * 2 ^ k))).toNat % ((2 : Int) ^ IntKind.u64.bits).natAbs))) = some (AV.int .u64 (Int.ofNat (x + 2 ^ k * y))) := by
  have h1 := pow_le64 hk
  have e : x ||| y * 2 ^ k = x + 2 ^ k * y := by
    rw [Nat.or_comm, Nat.mul_comm y, ← Nat.two_pow_add_eq_or_of_lt hx y, Nat.add_comm]
  have hlt : x + 2 ^ k * y < 18446744073709551616 := by
    rw [← e]
    have := Nat.or_lt_two_pow (n := 64) (x := x) (y := y * 2 ^ k) (by omega) hy
    exact this
  rw [nat64, bits64, or_nat x (y * 2 ^ k) (by omega) hy, e, Nat.mod_eq_of_lt hlt]
theorem w_conv (k : IntKind) (x m : Nat) (hm : ((2 : Int) ^ k.bits).natAbs = m) (hx : x < m) : some (AV.int k (Int.ofNat (x % ((2 : Int) ^ k.bits).natAbs))) = some (AV.int k (Int.ofNat x)) := by
  rw [hm, Nat.mod_eq_of_lt hx]
theorem w_take (w a k : Nat) (hw : w < 18446744073709551616) (ha : a ≤ 64) (hk : k < 64) (kd : IntKind) (m : Nat) (hm : ((2 : Int) ^ kd.bits).natAbs = m) (hx : 2 ^ k ≤ m) : some (AV.int kd (Int.ofNat ((BitVec.ofInt IntKind.u64.bits ((Int.ofNat w).fdiv (2 ^ min (Int.toNat (Int.ofNat a)) IntKind.u64.bits)) &&& BitVec.ofInt IntKind.u64.bits (IntKind.u64.wrap (IntKind.u64.wrap (1 * 2 ^ min (Int.toNat (Int.ofNat k)) IntKind.u64.bits) - 1))).toNat % ((2 : Int) ^ IntKind.u64.bits).natAbs % ((2 : Int) ^ kd.bits).natAbs))) = some (AV.int kd (Int.ofNat (w / 2 ^ a % 2 ^ k))) := by
  have h0 : 0 < 2 ^ k := Nat.pow_pos (by omega)
  have h1 := Nat.mod_lt (w / 2 ^ a) h0
  have h2 := pow_le64 (n := k) (by omega)
  rw [shr_mask w a k hw ha hk, nat64, hm, Nat.mod_eq_of_lt (by omega), Nat.mod_eq_of_lt (by omega)]
theorem w_take64 (w a k : Nat) (hw : w < 18446744073709551616) (ha : a ≤ 64) (hk : k < 64) : some (AV.int .u64 (Int.ofNat ((BitVec.ofInt IntKind.u64.bits ((Int.ofNat w).fdiv (2 ^ min (Int.toNat (Int.ofNat a)) IntKind.u64.bits)) &&& BitVec.ofInt IntKind.u64.bits (IntKind.u64.wrap (IntKind.u64.wrap (1 * 2 ^ min (Int.toNat (Int.ofNat k)) IntKind.u64.bits) - 1))).toNat % ((2 : Int) ^ IntKind.u64.bits).natAbs))) = some (AV.int .u64 (Int.ofNat (w / 2 ^ a % 2 ^ k))) := by
  have h0 : 0 < 2 ^ k := Nat.pow_pos (by omega)
  have h1 := Nat.mod_lt (w / 2 ^ a) h0
  have h2 := pow_le64 (n := k) (by omega)
  rw [shr_mask w a k hw ha hk, nat64, Nat.mod_eq_of_lt (by omega)]
/-! ### Put -/
theorem i64_of {n : Nat} (h : n < 9223372036854775808) : some (AV.int .i64 (IntKind.i64.wrap (Int.ofNat n))) = some (AV.int .i64 (Int.ofNat n)) := by
  rw [i64_wrap (by simp only [Int.ofNat_eq_natCast]; omega) (by simp only [Int.ofNat_eq_natCast]; omega)]
theorem put_loop0 (w x fr to : Nat) (hfr : fr ≤ 62) : ∀ d i, fr - i = d → i ≤ fr → SoundL Tryz.prog [] (.loop (loopAt Tryz.prog 99 0)) (Tp0 w x fr to (2 ^ i) i) [] 0 3 (.exit 0) (Tp0 w x fr to (2 ^ fr) fr) []
  | 0, i, hd, hi => by
    have : i = fr := by omega
    subst this
    refine SoundL.stop (SoundL.plain (runX_sound mixed none_sound (put_end0 w x i to (2 ^ i) i) ⟨by simp [Qst.ok], trivial⟩) ?_) (by simp)
    unfold Tp0
    repeat (first | exact rfl | refine ⟨_, _, rfl, ?_, ?_⟩ | exact .inr ⟨rfl, rfl⟩ | exact .inl ⟨rfl, rfl⟩)
  | d + 1, i, hd, hi => by
    refine SoundL.next (SoundL.plain (ts' := Tp0 w x fr to (2 ^ (i + 1)) (i + 1)) (runX_sound mixed none_sound (put_go0 w x fr to (2 ^ i) (2 ^ (i + 1)) i) ⟨by simp [Qst.ok]; omega, ?_, i64_of (by omega), trivial⟩) ?_) (put_loop0 w x fr to hfr d (i + 1) (by omega) (by omega))
    · have := pow_le64 (n := i + 1) (by omega)
      show some _ = some _
      rw [nat64, ← Nat.pow_succ, Nat.mod_eq_of_lt (by omega)]
    · unfold Tp0
      repeat (first | exact rfl | refine ⟨_, _, rfl, ?_, ?_⟩ | exact .inr ⟨rfl, rfl⟩ | exact .inl ⟨rfl, rfl⟩)
def pw (n : Nat) : Nat := 2 ^ n % 18446744073709551616
def pwW (w x fr i : Nat) : Nat := w + 2 ^ fr * (x % 2 ^ i)
theorem pwW_lt {w x fr i : Nat} (hw : w < 2 ^ fr) : pwW w x fr i < 2 ^ (fr + i) := by
  unfold pwW
  have h0 : 0 < 2 ^ i := Nat.pow_pos (by omega)
  have h1 := Nat.mod_lt x h0
  have : 2 ^ fr * (x % 2 ^ i) + 2 ^ fr ≤ 2 ^ fr * 2 ^ i := by
    rw [← Nat.mul_succ]
    exact Nat.mul_le_mul_left _ h1
  rw [Nat.pow_add]
  omega
theorem pwW_step (w x fr i : Nat) : pwW w x fr (i + 1) = pwW w x fr i + 2 ^ (fr + i) * bt x i := by
  unfold pwW bt
  rw [Nat.mod_pow_succ, Nat.mul_add, ← Nat.mul_assoc, ← Nat.pow_add, Nat.add_assoc]
theorem pw_next (n : Nat) : pw n * 2 % 18446744073709551616 = pw (n + 1) := by
  unfold pw
  rw [Nat.pow_succ, Nat.mod_mul_mod]
theorem pow_le_max {n : Nat} (h : n ≤ 64) : 2 ^ n ≤ 18446744073709551616 := Nat.pow_le_pow_right (n := 2) (by omega) h
theorem put_loop1 (w x fr to : Nat) (hft : fr ≤ to) (hto : to ≤ 63) (hw : w < 2 ^ fr) (hx : x < 18446744073709551616) : ∀ d i, to + 1 - fr - i = d → i ≤ to + 1 - fr → SoundL Tryz.prog [] (.loop (loopAt Tryz.prog 99 1)) (Tp1 (pwW w x fr i) x fr to (pw (fr + i)) i) [] 0 3 (.exit 2) (Tp1 (pwW w x fr (to + 1 - fr)) x fr to (pw (to + 1)) (to + 1 - fr)) []
  | 0, i, hd, hi => by
    have : i = to + 1 - fr := by omega
    subst this
    refine SoundL.stop (SoundL.plain (runX_sound mixed none_sound (put_end1 (pwW w x fr (to + 1 - fr)) x fr to (pw (fr + (to + 1 - fr))) (to + 1 - fr) (to - fr)) ⟨?_, by simp [Qst.ok]; omega, trivial⟩) ?_) (by simp)
    · show some _ = some _
      rw [show Int.ofNat to - Int.ofNat fr = Int.ofNat (to - fr) from by simp only [Int.ofNat_eq_natCast]; omega]
      exact i64_of (by omega)
    · rw [show fr + (to + 1 - fr) = to + 1 from by omega]
      unfold Tp1
      repeat (first | exact rfl | refine ⟨_, _, rfl, ?_, ?_⟩ | exact .inr ⟨rfl, rfl⟩ | exact .inl ⟨rfl, rfl⟩)
  | d + 1, i, hd, hi => by
    have hsub : some (AV.int .i64 (IntKind.i64.wrap (Int.ofNat to - Int.ofNat fr))) = some (AV.int .i64 (Int.ofNat (to - fr))) := by
      rw [show Int.ofNat to - Int.ofNat fr = Int.ofNat (to - fr) from by simp only [Int.ofNat_eq_natCast]; omega]
      exact i64_of (by omega)
    have hone : some (AV.int .u64 (Int.ofNat (pw (fr + i) * 2 % ((2 : Int) ^ IntKind.u64.bits).natAbs))) = some (AV.int .u64 (Int.ofNat (pw (fr + (i + 1))))) := by
      rw [nat64, pw_next, Nat.add_assoc]
    have hb : bt x i < 2 := Nat.mod_lt _ (by omega)
    have ih := put_loop1 w x fr to hft hto hw hx d (i + 1) (by omega) (by omega)
    have hpw : pw (fr + i) = 2 ^ (fr + i) := by
      have := pow_le64 (n := fr + i) (by omega)
      unfold pw
      rw [Nat.mod_eq_of_lt (by omega)]
    by_cases h1 : bt x i = 1
    · refine SoundL.next (SoundL.plain (ts' := Tp1 (pwW w x fr (i + 1)) x fr to (pw (fr + (i + 1))) (i + 1)) (runX_sound mixed none_sound (put_go1y (pwW w x fr i) x fr to (pw (fr + i)) (pw (fr + (i + 1))) i (pwW w x fr (i + 1)) (to - fr)) ⟨hsub, by simp [Qst.ok]; omega, bit_call x i hx (by omega) _, by simp [Qst.ok, h1], ?_, hone, i64_of (by omega), trivial⟩) ?_) ih
      · show some _ = some _
        have h2 := pwW_lt (x := x) (i := i + 1) hw
        have h3 := pow_le_max (n := fr + (i + 1)) (by omega)
        rw [hpw, show pwW w x fr i + 2 ^ (fr + i) = pwW w x fr (i + 1) from by rw [pwW_step, h1, Nat.mul_one], nat64, Nat.mod_eq_of_lt (by omega)]
      · unfold Tp1
        repeat (first | exact rfl | refine ⟨_, _, rfl, ?_, ?_⟩ | exact .inr ⟨rfl, rfl⟩ | exact .inl ⟨rfl, rfl⟩)
    · have h0 : bt x i = 0 := by omega
      have hs : pwW w x fr (i + 1) = pwW w x fr i := by rw [pwW_step, h0, Nat.mul_zero, Nat.add_zero]
      refine SoundL.next (SoundL.plain (ts' := Tp1 (pwW w x fr (i + 1)) x fr to (pw (fr + (i + 1))) (i + 1)) (runX_sound mixed none_sound (put_go1n (pwW w x fr i) x fr to (pw (fr + i)) (pw (fr + (i + 1))) i (to - fr)) ⟨hsub, by simp [Qst.ok]; omega, bit_call x i hx (by omega) _, by simp [Qst.ok, h0], hone, i64_of (by omega), trivial⟩) ?_) ih
      rw [hs]
      unfold Tp1
      repeat (first | exact rfl | refine ⟨_, _, rfl, ?_, ?_⟩ | exact .inr ⟨rfl, rfl⟩ | exact .inl ⟨rfl, rfl⟩)
set_option maxRecDepth 20000 in
theorem put_call (w x fr to : Nat) (hft : fr ≤ to) (hfr : fr ≤ 62) (hto : to ≤ 63) (hw : w < 2 ^ fr) (hx : x < 18446744073709551616) (s : AS) : Sound Tryz.prog (.call 99 [.int .u64 (Int.ofNat w), .int .u64 (Int.ofNat x), .int .i64 (Int.ofNat fr), .int .i64 (Int.ofNat to)] s) ⟨.ret, [.int .u64 (Int.ofNat (w + 2 ^ fr * (x % 2 ^ (to + 1 - fr))))], s⟩ := by
  refine Sound.pure (G := []) (runX_sound mixed none_sound (put_run w x fr to (2 ^ fr) (pw (to + 1)) (pwW w x fr (to + 1 - fr)) (to + 1 - fr)) ⟨?_, ?_, trivial⟩) rfl rfl rfl rfl
  · refine Sound.enter (ts' := Tp0 w x fr to (2 ^ 0) 0) (put_loop0 w x fr to hfr fr 0 (by omega) (by omega) none none []) ?_
    unfold Tp0
    repeat (first | exact rfl | refine ⟨_, _, rfl, ?_, ?_⟩ | exact .inr ⟨rfl, rfl⟩ | exact .inl ⟨rfl, rfl⟩)
  · have h := put_loop1 w x fr to hft hto hw hx (to + 1 - fr) 0 (by omega) (by omega) none none []
    have e0 : pwW w x fr 0 = w := by unfold pwW; simp [Nat.mod_one]
    have e1 : pw (fr + 0) = 2 ^ fr := by
      have := pow_le64 (n := fr) (by omega)
      unfold pw
      rw [Nat.add_zero, Nat.mod_eq_of_lt (by omega)]
    rw [e0, e1] at h
    refine Sound.enter (ts' := Tp1 w x fr to (2 ^ fr) 0) h ?_
    unfold Tp1
    repeat (first | exact rfl | refine ⟨_, _, rfl, ?_, ?_⟩ | exact .inr ⟨rfl, rfl⟩ | exact .inl ⟨rfl, rfl⟩)
/-! ### AsPhase, Phase -/
def cz (a : Nat) : Nat := if 3 < a then 0 else a
theorem wph_call (a : Nat) (s : AS) : Sound Tryz.prog (.call 61 [.int .u8 (Int.ofNat a)] s) ⟨.ret, [.int .u8 (Int.ofNat (cz a))], s⟩ := by
  unfold cz
  by_cases h : 3 < a
  · rw [if_pos h]
    exact Sound.pure (G := []) (runX_sound mixed none_sound (wph_y a) ⟨by simp [Qst.ok]; omega, trivial⟩) rfl rfl rfl rfl
  · rw [if_neg h]
    exact Sound.pure (G := []) (runX_sound mixed none_sound (wph_n a) ⟨by simp [Qst.ok]; omega, trivial⟩) rfl rfl rfl rfl
def asp (w : Nat) : AV := .agg (phC (cz (w % 8)) (w / 8 % 8) (w / 64 % 8) (w / 65536 % 281474976710656))
def ofp (a b c n : Nat) : Nat := cz a + 8 * (b % 8) + 64 * (c % 8) + 65536 * (n % 281474976710656)
theorem asp_call (w : Nat) (hw : w < 18446744073709551616) (s : AS) (hG : hasG s GW = true) : Sound Tryz.prog (.call 43 [.int .u64 (Int.ofNat w)] s) ⟨.ret, [asp w], s⟩ := by
  have h1 := w_take w 0 3 hw (by omega) (by omega) .u8 256 nat8 (by omega)
  have h2 := w_take w 3 3 hw (by omega) (by omega) .u8 256 nat8 (by omega)
  have h3 := w_take w 6 3 hw (by omega) (by omega) .u8 256 nat8 (by omega)
  have h4 := w_take64 w 16 48 hw (by omega) (by omega)
  rw [show w / 2 ^ 0 % 2 ^ 3 = w % 8 from by simp] at h1
  exact Sound.pure (G := GW) (runX_sound mixed none_sound (asph_run w (w % 8) (cz (w % 8)) (w / 8 % 8) (w / 64 % 8) (w / 65536 % 281474976710656)) ⟨h1, wph_call _ _, h2, h3, h4, trivial⟩) (by kernel_rfl) rfl rfl hG
theorem rasp_call (w : Nat) (hw : w < 18446744073709551616) (s : AS) : Sound Tryz.prog (.call 31 [.int .u64 (Int.ofNat w)] s) ⟨.ret, [asp w], s⟩ := by
  have f1 : ∀ s, _ := fun s => field_call w 3 5 hw (by omega) (by omega) (by omega) s
  have f2 : ∀ s, _ := fun s => field_call w 6 8 hw (by omega) (by omega) (by omega) s
  have f3 : ∀ s, _ := fun s => field_call w 16 63 hw (by omega) (by omega) (by omega) s
  have f0 : ∀ s, _ := fun s => field_call w 0 2 hw (by omega) (by omega) (by omega) s
  simp only [fld] at f0 f1 f2 f3
  rw [show w / 2 ^ 0 % 2 ^ (2 + 1 - 0) = w % 8 from by simp] at f0
  rw [show w / 2 ^ 3 % 2 ^ (5 + 1 - 3) = w / 8 % 8 from by simp] at f1
  rw [show w / 2 ^ 6 % 2 ^ (8 + 1 - 6) = w / 64 % 8 from by simp] at f2
  rw [show w / 2 ^ 16 % 2 ^ (63 + 1 - 16) = w / 65536 % 281474976710656 from by simp] at f3
  have c1 := w_conv .u8 (w / 8 % 8) 256 nat8 (by omega)
  have c2 := w_conv .u8 (w / 64 % 8) 256 nat8 (by omega)
  have c0 := w_conv .u8 (w % 8) 256 nat8 (by omega)
  by_cases h : w % 8 ≤ 3
  · have := Sound.pure (G := []) (s := s) (runX_sound mixed none_sound (rasph_y w (w % 8) (w / 8 % 8) (w / 64 % 8) (w / 65536 % 281474976710656)) ⟨f1 _, c1, f2 _, c2, f3 _, f0 _, by simp [Qst.ok]; omega, f0 _, c0, trivial⟩) rfl rfl rfl rfl
    unfold asp cz
    rw [if_neg (by omega)]
    exact this
  · have := Sound.pure (G := []) (s := s) (runX_sound mixed none_sound (rasph_n w (w % 8) (w / 8 % 8) (w / 64 % 8) (w / 65536 % 281474976710656)) ⟨f1 _, c1, f2 _, c2, f3 _, f0 _, by simp [Qst.ok]; omega, trivial⟩) rfl rfl rfl rfl
    unfold asp cz
    rw [if_pos (by omega)]
    exact this
theorem cz_lt (a : Nat) : cz a ≤ 3 := by unfold cz; split <;> omega
theorem ph_call (a b c n : Nat) (hb : b < 256) (hc : c < 256) (hn : n < 18446744073709551616) (s : AS) (hG : hasG s GW = true) : Sound Tryz.prog (.call 41 [.agg (phC a b c n)] s) ⟨.ret, [.int .u64 (Int.ofNat (ofp a b c n))], s⟩ := by
  have hz := cz_lt a
  have e0 : some (AV.int .u64 (Int.ofNat (cz a % 2 ^ 3))) = some (AV.int .u64 (Int.ofNat (cz a))) := by rw [show cz a % 2 ^ 3 = cz a from by omega]
  have e1 : some (AV.int .u64 (Int.ofNat (cz a * 2 ^ 0))) = some (AV.int .u64 (Int.ofNat (cz a))) := by rw [Nat.pow_zero, Nat.mul_one]
  have e2 : some (AV.int .u64 (Int.ofNat (0 + 2 ^ 0 * cz a))) = some (AV.int .u64 (Int.ofNat (cz a))) := by rw [Nat.pow_zero, Nat.one_mul, Nat.zero_add]
  have q2 := w_or 0 (cz a) 0 (by omega) (by omega) (by omega)
  rw [Nat.pow_zero, Nat.mul_one, Nat.one_mul, Nat.zero_add] at q2
  refine Sound.pure (G := GW) (runX_sound mixed none_sound (phase_run a b c n (cz a) (b % 2 ^ 3) (c % 2 ^ 3) (n % 2 ^ 48) (b % 2 ^ 3 * 2 ^ 3) (c % 2 ^ 3 * 2 ^ 6) (n % 2 ^ 48 * 2 ^ 16) (cz a + 2 ^ 3 * (b % 2 ^ 3)) (cz a + 2 ^ 3 * (b % 2 ^ 3) + 2 ^ 6 * (c % 2 ^ 3)) (ofp a b c n)) ⟨wph_call _ _, w_conv .u64 _ _ nat64 (by omega), (w_and _ 3 (by omega) (by omega)).trans e0, (w_shl _ 0 (by omega) (by omega)).trans e1, q2,
    w_conv .u64 _ _ nat64 (by omega), w_and _ 3 (by omega) (by omega), w_shl _ 3 (by omega) (by omega), w_or _ _ 3 (by omega) (by omega) (by omega),
    w_conv .u64 _ _ nat64 (by omega), w_and _ 3 (by omega) (by omega), w_shl _ 6 (by omega) (by omega), w_or _ _ 6 (by omega) (by omega) (by omega),
    w_and _ 48 hn (by omega), w_shl _ 16 (by omega) (by omega), ?_, trivial⟩) (by kernel_rfl) rfl rfl hG
  refine (w_or _ _ 16 (by omega) (by omega) (by omega)).trans ?_
  unfold ofp
  rw [show cz a + 2 ^ 3 * (b % 2 ^ 3) + 2 ^ 6 * (c % 2 ^ 3) + 2 ^ 16 * (n % 2 ^ 48) = cz a + 8 * (b % 8) + 64 * (c % 8) + 65536 * (n % 281474976710656) from by omega]
theorem rph_call (a b c n : Nat) (ha : a < 256) (hb : b < 256) (hc : c < 256) (hn : n < 18446744073709551616) (s : AS) : Sound Tryz.prog (.call 83 [.agg (phC a b c n)] s) ⟨.ret, [.int .u64 (Int.ofNat (ofp a b c n))], s⟩ := by
  have hz := cz_lt a
  have p1 : ∀ s, _ := fun s => put_call (cz a) b 3 5 (by omega) (by omega) (by omega) (by omega) (by omega) s
  have p2 : ∀ s, _ := fun s => put_call (cz a + 2 ^ 3 * (b % 2 ^ (5 + 1 - 3))) c 6 8 (by omega) (by omega) (by omega) (by omega) (by omega) s
  have p3 : ∀ s, _ := fun s => put_call (cz a + 2 ^ 3 * (b % 2 ^ (5 + 1 - 3)) + 2 ^ 6 * (c % 2 ^ (8 + 1 - 6))) n 16 63 (by omega) (by omega) (by omega) (by omega) hn s
  have e : cz a + 2 ^ 3 * (b % 2 ^ (5 + 1 - 3)) + 2 ^ 6 * (c % 2 ^ (8 + 1 - 6)) + 2 ^ 16 * (n % 2 ^ (63 + 1 - 16)) = ofp a b c n := by
    unfold ofp
    omega
  rw [e] at p3
  by_cases h : 3 < a
  · have hc0 : cz a = 0 := by unfold cz; rw [if_pos h]
    rw [hc0] at p1 p2 p3
    exact Sound.pure (G := []) (s := s) (runX_sound mixed none_sound (rphase_y a b c n _ _ _) ⟨w_conv .u64 _ _ nat64 (by omega), by simp [Qst.ok]; omega, w_conv .u64 _ _ nat64 (by omega), w_conv .u64 _ _ nat64 (by omega), p1 _, p2 _, p3 _, trivial⟩) rfl rfl rfl rfl
  · have hc0 : cz a = a := by unfold cz; rw [if_neg h]
    rw [hc0] at p1 p2 p3
    exact Sound.pure (G := []) (s := s) (runX_sound mixed none_sound (rphase_n a b c n _ _ _) ⟨w_conv .u64 _ _ nat64 (by omega), by simp [Qst.ok]; omega, w_conv .u64 _ _ nat64 (by omega), w_conv .u64 _ _ nat64 (by omega), p1 _, p2 _, p3 _, trivial⟩) rfl rfl rfl rfl
/-! ### phases, of both -/
def sg (s : Nat) : Bool := decide (s = 1) || decide (s = 2) || decide (s = 4)
def mayP (a b c : Nat) : Bool := sg b && (if a = 0 then decide (c = 0) else sg c && decide (c ≠ b))
def mo (n : Nat) : Nat := (n + 1) % 281474976710656
def nextP (a b c n : Nat) : List AV := if mayP a b c = true ∧ a ≠ 0 then (if a = 1 then phC 2 b c (mo n) else if a = 2 then phC 3 b c (mo n) else phC 0 c 0 (mo n)) else phC 0 0 0 0
def begP (a b c n t : Nat) : List AV × Nat := if (mayP a b c && sg t) = false then (phC 0 0 0 0, 1) else if a ≠ 0 then (phC 0 0 0 0, 7) else if t = b then (phC 0 0 0 0, 8) else (phC 1 b t (mo n), 0)
def GP : List (Nat × List AV) := [(2, wfP)]
theorem sgl_0  : runX Tryz.prog none_ 60 87 (.call 87 [i8 0] (startS Tryz.prog [])) [] = some ({ e := .ret, ts := [.bool false], s := ⟨⟨[], 0, none, []⟩, 3⟩ }, [], []) := by kernel_rfl
theorem sgl_1  : runX Tryz.prog none_ 60 87 (.call 87 [i8 1] (startS Tryz.prog [])) [] = some ({ e := .ret, ts := [.bool true], s := ⟨⟨[], 0, none, []⟩, 3⟩ }, [], []) := by kernel_rfl
theorem sgl_2  : runX Tryz.prog none_ 60 87 (.call 87 [i8 2] (startS Tryz.prog [])) [] = some ({ e := .ret, ts := [.bool true], s := ⟨⟨[], 0, none, []⟩, 3⟩ }, [], []) := by kernel_rfl
theorem sgl_3  : runX Tryz.prog none_ 60 87 (.call 87 [i8 3] (startS Tryz.prog [])) [] = some ({ e := .ret, ts := [.bool false], s := ⟨⟨[], 0, none, []⟩, 3⟩ }, [], []) := by kernel_rfl
theorem sgl_4  : runX Tryz.prog none_ 60 87 (.call 87 [i8 4] (startS Tryz.prog [])) [] = some ({ e := .ret, ts := [.bool true], s := ⟨⟨[], 0, none, []⟩, 3⟩ }, [], []) := by kernel_rfl
theorem sgl_n (s : Nat) : runX Tryz.prog none_ 60 87 (.call 87 [i8 s] (startS Tryz.prog [])) [.val 87 1 1 (.bool false)] = some ({ e := .ret, ts := [.bool false], s := ⟨⟨[], 0, none, []⟩, 3⟩ }, [], [Qst.val (some (.bool (decide (Int.ofNat s ≤ 4)))) (.bool false)]) := by kernel_rfl
theorem rsgl_1 (s : Nat) : runX Tryz.prog none_ 60 82 (.call 82 [i8 s] (startS Tryz.prog [])) [.val 82 1 1 (.bool true)] = some ({ e := .ret, ts := [.bool true], s := ⟨⟨[], 0, none, []⟩, 3⟩ }, [], [Qst.val (some (.bool (Int.ofNat s == Int.ofNat 1))) (.bool true)]) := by kernel_rfl
theorem rsgl_2 (s : Nat) : runX Tryz.prog none_ 60 82 (.call 82 [i8 s] (startS Tryz.prog [])) [.val 82 1 1 (.bool false), .val 82 1 4 (.bool true)] = some ({ e := .ret, ts := [.bool true], s := ⟨⟨[], 0, none, []⟩, 3⟩ }, [], [Qst.val (some (.bool (Int.ofNat s == Int.ofNat 1))) (.bool false), Qst.val (some (.bool (Int.ofNat s == Int.ofNat 2))) (.bool true)]) := by kernel_rfl
theorem rsgl_4 (s : Nat) : runX Tryz.prog none_ 60 82 (.call 82 [i8 s] (startS Tryz.prog [])) [.val 82 1 1 (.bool false), .val 82 1 4 (.bool false), .val 82 1 8 (.bool true)] = some ({ e := .ret, ts := [.bool true], s := ⟨⟨[], 0, none, []⟩, 3⟩ }, [], [Qst.val (some (.bool (Int.ofNat s == Int.ofNat 1))) (.bool false), Qst.val (some (.bool (Int.ofNat s == Int.ofNat 2))) (.bool false), Qst.val (some (.bool (Int.ofNat s == Int.ofNat 4))) (.bool true)]) := by kernel_rfl
theorem rsgl_n (s : Nat) : runX Tryz.prog none_ 60 82 (.call 82 [i8 s] (startS Tryz.prog [])) [.val 82 1 1 (.bool false), .val 82 1 4 (.bool false), .val 82 1 8 (.bool false)] = some ({ e := .ret, ts := [.bool false], s := ⟨⟨[], 0, none, []⟩, 3⟩ }, [], [Qst.val (some (.bool (Int.ofNat s == Int.ofNat 1))) (.bool false), Qst.val (some (.bool (Int.ofNat s == Int.ofNat 2))) (.bool false), Qst.val (some (.bool (Int.ofNat s == Int.ofNat 4))) (.bool false)]) := by kernel_rfl
theorem may0_o (b c n : Nat) : runX Tryz.prog none_ 60 64 (.call 64 [.agg (phC 0 b c n)] (startS Tryz.prog [])) [.pure 64 1 2 [] (.bool false)] = some ({ e := .ret, ts := [.bool false], s := ⟨⟨[], 0, none, []⟩, 4⟩ }, [], [Qst.pure [] 87 [i8 b] (.bool false)]) := by kernel_rfl
theorem rmay0_o (b c n : Nat) : runX Tryz.prog none_ 60 54 (.call 54 [.agg (phC 0 b c n)] (startS Tryz.prog [])) [.pure 54 3 2 [] (.bool false)] = some ({ e := .ret, ts := [.bool false], s := ⟨⟨[], 0, none, []⟩, 4⟩ }, [], [Qst.pure [] 82 [i8 b] (.bool false)]) := by kernel_rfl
theorem may0_0 (b c n : Nat) : runX Tryz.prog none_ 60 64 (.call 64 [.agg (phC 0 b c n)] (startS Tryz.prog [])) [.pure 64 1 2 [] (.bool true), .val 64 4 2 (.bool false)] = some ({ e := .ret, ts := [.bool false], s := ⟨⟨[], 0, none, []⟩, 4⟩ }, [], [Qst.pure [] 87 [i8 b] (.bool true), Qst.val (some (.bool (Int.ofNat c == Int.ofNat 0))) (.bool false)]) := by kernel_rfl
theorem rmay0_0 (b c n : Nat) : runX Tryz.prog none_ 60 54 (.call 54 [.agg (phC 0 b c n)] (startS Tryz.prog [])) [.pure 54 3 2 [] (.bool true), .val 54 3 6 (.bool false)] = some ({ e := .ret, ts := [.bool false], s := ⟨⟨[], 0, none, []⟩, 4⟩ }, [], [Qst.pure [] 82 [i8 b] (.bool true), Qst.val (some (.bool (Int.ofNat c == Int.ofNat 0))) (.bool false)]) := by kernel_rfl
theorem may0_1 (b c n : Nat) : runX Tryz.prog none_ 60 64 (.call 64 [.agg (phC 0 b c n)] (startS Tryz.prog [])) [.pure 64 1 2 [] (.bool true), .val 64 4 2 (.bool true)] = some ({ e := .ret, ts := [.bool true], s := ⟨⟨[], 0, none, []⟩, 4⟩ }, [], [Qst.pure [] 87 [i8 b] (.bool true), Qst.val (some (.bool (Int.ofNat c == Int.ofNat 0))) (.bool true)]) := by kernel_rfl
theorem rmay0_1 (b c n : Nat) : runX Tryz.prog none_ 60 54 (.call 54 [.agg (phC 0 b c n)] (startS Tryz.prog [])) [.pure 54 3 2 [] (.bool true), .val 54 3 6 (.bool true)] = some ({ e := .ret, ts := [.bool true], s := ⟨⟨[], 0, none, []⟩, 4⟩ }, [], [Qst.pure [] 82 [i8 b] (.bool true), Qst.val (some (.bool (Int.ofNat c == Int.ofNat 0))) (.bool true)]) := by kernel_rfl
theorem nx0_n (b c n : Nat) : runX Tryz.prog none_ 60 103 (.call 103 [.agg (phC 0 b c n)] (startS Tryz.prog GP)) [.pure 103 1 1 [] (.bool false)] = some ({ e := .ret, ts := [.tuple [.agg [i8 0, i8 0, i8 0, iw 0], .bool false]], s := ⟨⟨[(2, .cells true wfP)], 1, none, []⟩, 5⟩ }, [], [Qst.pure [] 64 [.agg [i8 0, i8 b, i8 c, iw n]] (.bool false)]) := by kernel_rfl
theorem rnx0_n (b c n : Nat) : runX Tryz.prog none_ 60 53 (.call 53 [.agg (phC 0 b c n)] (startS Tryz.prog [])) [.pure 53 1 1 [] (.bool false)] = some ({ e := .ret, ts := [.tuple [.agg [i8 0, i8 0, i8 0, iw 0], .bool false]], s := ⟨⟨[], 0, none, []⟩, 5⟩ }, [], [Qst.pure [] 54 [.agg [i8 0, i8 b, i8 c, iw n]] (.bool false)]) := by kernel_rfl
theorem nx0_y (b c n : Nat) : runX Tryz.prog none_ 60 103 (.call 103 [.agg (phC 0 b c n)] (startS Tryz.prog GP)) [.pure 103 1 1 [] (.bool true)] = some ({ e := .ret, ts := [.tuple [.agg [i8 0, i8 0, i8 0, iw 0], .bool false]], s := ⟨⟨[(2, .cells true wfP)], 1, none, []⟩, 5⟩ }, [], [Qst.pure [] 64 [.agg [i8 0, i8 b, i8 c, iw n]] (.bool true)]) := by kernel_rfl
theorem rnx0_y (b c n : Nat) : runX Tryz.prog none_ 60 53 (.call 53 [.agg (phC 0 b c n)] (startS Tryz.prog [])) [.pure 53 1 1 [] (.bool true)] = some ({ e := .ret, ts := [.tuple [.agg [i8 0, i8 0, i8 0, iw 0], .bool false]], s := ⟨⟨[], 0, none, []⟩, 5⟩ }, [], [Qst.pure [] 54 [.agg [i8 0, i8 b, i8 c, iw n]] (.bool true)]) := by kernel_rfl
theorem may1_o (b c n : Nat) : runX Tryz.prog none_ 60 64 (.call 64 [.agg (phC 1 b c n)] (startS Tryz.prog [])) [.pure 64 1 2 [] (.bool false)] = some ({ e := .ret, ts := [.bool false], s := ⟨⟨[], 0, none, []⟩, 4⟩ }, [], [Qst.pure [] 87 [i8 b] (.bool false)]) := by kernel_rfl
theorem rmay1_o (b c n : Nat) : runX Tryz.prog none_ 60 54 (.call 54 [.agg (phC 1 b c n)] (startS Tryz.prog [])) [.pure 54 7 2 [] (.bool false)] = some ({ e := .ret, ts := [.bool false], s := ⟨⟨[], 0, none, []⟩, 4⟩ }, [], [Qst.pure [] 82 [i8 b] (.bool false)]) := by kernel_rfl
theorem may1_c (b c n : Nat) : runX Tryz.prog none_ 60 64 (.call 64 [.agg (phC 1 b c n)] (startS Tryz.prog [])) [.pure 64 1 2 [] (.bool true), .pure 64 5 2 [] (.bool false)] = some ({ e := .ret, ts := [.bool false], s := ⟨⟨[], 0, none, []⟩, 4⟩ }, [], [Qst.pure [] 87 [i8 b] (.bool true), Qst.pure [] 87 [i8 c] (.bool false)]) := by kernel_rfl
theorem rmay1_c (b c n : Nat) : runX Tryz.prog none_ 60 54 (.call 54 [.agg (phC 1 b c n)] (startS Tryz.prog [])) [.pure 54 7 2 [] (.bool true), .pure 54 7 6 [] (.bool false)] = some ({ e := .ret, ts := [.bool false], s := ⟨⟨[], 0, none, []⟩, 4⟩ }, [], [Qst.pure [] 82 [i8 b] (.bool true), Qst.pure [] 82 [i8 c] (.bool false)]) := by kernel_rfl
theorem may1_0 (b c n : Nat) : runX Tryz.prog none_ 60 64 (.call 64 [.agg (phC 1 b c n)] (startS Tryz.prog [])) [.pure 64 1 2 [] (.bool true), .pure 64 5 2 [] (.bool true), .val 64 5 8 (.bool false)] = some ({ e := .ret, ts := [.bool false], s := ⟨⟨[], 0, none, []⟩, 4⟩ }, [], [Qst.pure [] 87 [i8 b] (.bool true), Qst.pure [] 87 [i8 c] (.bool true), Qst.val (some (.bool (Int.ofNat c != Int.ofNat b))) (.bool false)]) := by kernel_rfl
theorem rmay1_0 (b c n : Nat) : runX Tryz.prog none_ 60 54 (.call 54 [.agg (phC 1 b c n)] (startS Tryz.prog [])) [.pure 54 7 2 [] (.bool true), .pure 54 7 6 [] (.bool true), .val 54 7 13 (.bool false)] = some ({ e := .ret, ts := [.bool false], s := ⟨⟨[], 0, none, []⟩, 4⟩ }, [], [Qst.pure [] 82 [i8 b] (.bool true), Qst.pure [] 82 [i8 c] (.bool true), Qst.val (some (.bool (Int.ofNat b != Int.ofNat c))) (.bool false)]) := by kernel_rfl
theorem may1_1 (b c n : Nat) : runX Tryz.prog none_ 60 64 (.call 64 [.agg (phC 1 b c n)] (startS Tryz.prog [])) [.pure 64 1 2 [] (.bool true), .pure 64 5 2 [] (.bool true), .val 64 5 8 (.bool true)] = some ({ e := .ret, ts := [.bool true], s := ⟨⟨[], 0, none, []⟩, 4⟩ }, [], [Qst.pure [] 87 [i8 b] (.bool true), Qst.pure [] 87 [i8 c] (.bool true), Qst.val (some (.bool (Int.ofNat c != Int.ofNat b))) (.bool true)]) := by kernel_rfl
theorem rmay1_1 (b c n : Nat) : runX Tryz.prog none_ 60 54 (.call 54 [.agg (phC 1 b c n)] (startS Tryz.prog [])) [.pure 54 7 2 [] (.bool true), .pure 54 7 6 [] (.bool true), .val 54 7 13 (.bool true)] = some ({ e := .ret, ts := [.bool true], s := ⟨⟨[], 0, none, []⟩, 4⟩ }, [], [Qst.pure [] 82 [i8 b] (.bool true), Qst.pure [] 82 [i8 c] (.bool true), Qst.val (some (.bool (Int.ofNat b != Int.ofNat c))) (.bool true)]) := by kernel_rfl
theorem nx1_n (b c n : Nat) : runX Tryz.prog none_ 60 103 (.call 103 [.agg (phC 1 b c n)] (startS Tryz.prog GP)) [.pure 103 1 1 [] (.bool false)] = some ({ e := .ret, ts := [.tuple [.agg [i8 0, i8 0, i8 0, iw 0], .bool false]], s := ⟨⟨[(2, .cells true wfP)], 1, none, []⟩, 5⟩ }, [], [Qst.pure [] 64 [.agg [i8 1, i8 b, i8 c, iw n]] (.bool false)]) := by kernel_rfl
theorem rnx1_n (b c n : Nat) : runX Tryz.prog none_ 60 53 (.call 53 [.agg (phC 1 b c n)] (startS Tryz.prog [])) [.pure 53 1 1 [] (.bool false)] = some ({ e := .ret, ts := [.tuple [.agg [i8 0, i8 0, i8 0, iw 0], .bool false]], s := ⟨⟨[], 0, none, []⟩, 5⟩ }, [], [Qst.pure [] 54 [.agg [i8 1, i8 b, i8 c, iw n]] (.bool false)]) := by kernel_rfl
theorem nx1_y (b c n : Nat) : runX Tryz.prog none_ 60 103 (.call 103 [.agg (phC 1 b c n)] (startS Tryz.prog GP)) [.pure 103 1 1 [] (.bool true), .val 103 6 2 (iw (n + 1)), .val 103 6 3 (iw (mo n))] = some ({ e := .ret, ts := [.tuple [.agg [i8 2, i8 b, i8 c, iw (mo n)], .bool true]], s := ⟨⟨[(2, .cells true wfP)], 1, none, []⟩, 7⟩ }, [], [Qst.pure [] 64 [.agg [i8 1, i8 b, i8 c, iw n]] (.bool true), Qst.val (some (.int .u64 (Int.ofNat ((n + 1) % ((2 : Int) ^ IntKind.u64.bits).natAbs)))) (iw (n + 1)), Qst.val (some (.int .u64 (Int.ofNat ((n + 1) % 281474976710656)))) (iw (mo n))]) := by kernel_rfl
theorem rnx1_y (b c n : Nat) : runX Tryz.prog none_ 60 53 (.call 53 [.agg (phC 1 b c n)] (startS Tryz.prog [])) [.pure 53 1 1 [] (.bool true), .pure 53 5 6 [] (iw (mo n))] = some ({ e := .ret, ts := [.tuple [.agg [i8 2, i8 b, i8 c, iw (mo n)], .bool true]], s := ⟨⟨[], 0, none, []⟩, 5⟩ }, [], [Qst.pure [] 54 [.agg [i8 1, i8 b, i8 c, iw n]] (.bool true), Qst.pure [] 81 [iw n] (iw (mo n))]) := by kernel_rfl
theorem may2_o (b c n : Nat) : runX Tryz.prog none_ 60 64 (.call 64 [.agg (phC 2 b c n)] (startS Tryz.prog [])) [.pure 64 1 2 [] (.bool false)] = some ({ e := .ret, ts := [.bool false], s := ⟨⟨[], 0, none, []⟩, 4⟩ }, [], [Qst.pure [] 87 [i8 b] (.bool false)]) := by kernel_rfl
theorem rmay2_o (b c n : Nat) : runX Tryz.prog none_ 60 54 (.call 54 [.agg (phC 2 b c n)] (startS Tryz.prog [])) [.pure 54 7 2 [] (.bool false)] = some ({ e := .ret, ts := [.bool false], s := ⟨⟨[], 0, none, []⟩, 4⟩ }, [], [Qst.pure [] 82 [i8 b] (.bool false)]) := by kernel_rfl
theorem may2_c (b c n : Nat) : runX Tryz.prog none_ 60 64 (.call 64 [.agg (phC 2 b c n)] (startS Tryz.prog [])) [.pure 64 1 2 [] (.bool true), .pure 64 5 2 [] (.bool false)] = some ({ e := .ret, ts := [.bool false], s := ⟨⟨[], 0, none, []⟩, 4⟩ }, [], [Qst.pure [] 87 [i8 b] (.bool true), Qst.pure [] 87 [i8 c] (.bool false)]) := by kernel_rfl
theorem rmay2_c (b c n : Nat) : runX Tryz.prog none_ 60 54 (.call 54 [.agg (phC 2 b c n)] (startS Tryz.prog [])) [.pure 54 7 2 [] (.bool true), .pure 54 7 6 [] (.bool false)] = some ({ e := .ret, ts := [.bool false], s := ⟨⟨[], 0, none, []⟩, 4⟩ }, [], [Qst.pure [] 82 [i8 b] (.bool true), Qst.pure [] 82 [i8 c] (.bool false)]) := by kernel_rfl
theorem may2_0 (b c n : Nat) : runX Tryz.prog none_ 60 64 (.call 64 [.agg (phC 2 b c n)] (startS Tryz.prog [])) [.pure 64 1 2 [] (.bool true), .pure 64 5 2 [] (.bool true), .val 64 5 8 (.bool false)] = some ({ e := .ret, ts := [.bool false], s := ⟨⟨[], 0, none, []⟩, 4⟩ }, [], [Qst.pure [] 87 [i8 b] (.bool true), Qst.pure [] 87 [i8 c] (.bool true), Qst.val (some (.bool (Int.ofNat c != Int.ofNat b))) (.bool false)]) := by kernel_rfl
theorem rmay2_0 (b c n : Nat) : runX Tryz.prog none_ 60 54 (.call 54 [.agg (phC 2 b c n)] (startS Tryz.prog [])) [.pure 54 7 2 [] (.bool true), .pure 54 7 6 [] (.bool true), .val 54 7 13 (.bool false)] = some ({ e := .ret, ts := [.bool false], s := ⟨⟨[], 0, none, []⟩, 4⟩ }, [], [Qst.pure [] 82 [i8 b] (.bool true), Qst.pure [] 82 [i8 c] (.bool true), Qst.val (some (.bool (Int.ofNat b != Int.ofNat c))) (.bool false)]) := by kernel_rfl
theorem may2_1 (b c n : Nat) : runX Tryz.prog none_ 60 64 (.call 64 [.agg (phC 2 b c n)] (startS Tryz.prog [])) [.pure 64 1 2 [] (.bool true), .pure 64 5 2 [] (.bool true), .val 64 5 8 (.bool true)] = some ({ e := .ret, ts := [.bool true], s := ⟨⟨[], 0, none, []⟩, 4⟩ }, [], [Qst.pure [] 87 [i8 b] (.bool true), Qst.pure [] 87 [i8 c] (.bool true), Qst.val (some (.bool (Int.ofNat c != Int.ofNat b))) (.bool true)]) := by kernel_rfl
theorem rmay2_1 (b c n : Nat) : runX Tryz.prog none_ 60 54 (.call 54 [.agg (phC 2 b c n)] (startS Tryz.prog [])) [.pure 54 7 2 [] (.bool true), .pure 54 7 6 [] (.bool true), .val 54 7 13 (.bool true)] = some ({ e := .ret, ts := [.bool true], s := ⟨⟨[], 0, none, []⟩, 4⟩ }, [], [Qst.pure [] 82 [i8 b] (.bool true), Qst.pure [] 82 [i8 c] (.bool true), Qst.val (some (.bool (Int.ofNat b != Int.ofNat c))) (.bool true)]) := by kernel_rfl
theorem nx2_n (b c n : Nat) : runX Tryz.prog none_ 60 103 (.call 103 [.agg (phC 2 b c n)] (startS Tryz.prog GP)) [.pure 103 1 1 [] (.bool false)] = some ({ e := .ret, ts := [.tuple [.agg [i8 0, i8 0, i8 0, iw 0], .bool false]], s := ⟨⟨[(2, .cells true wfP)], 1, none, []⟩, 5⟩ }, [], [Qst.pure [] 64 [.agg [i8 2, i8 b, i8 c, iw n]] (.bool false)]) := by kernel_rfl
theorem rnx2_n (b c n : Nat) : runX Tryz.prog none_ 60 53 (.call 53 [.agg (phC 2 b c n)] (startS Tryz.prog [])) [.pure 53 1 1 [] (.bool false)] = some ({ e := .ret, ts := [.tuple [.agg [i8 0, i8 0, i8 0, iw 0], .bool false]], s := ⟨⟨[], 0, none, []⟩, 5⟩ }, [], [Qst.pure [] 54 [.agg [i8 2, i8 b, i8 c, iw n]] (.bool false)]) := by kernel_rfl
theorem nx2_y (b c n : Nat) : runX Tryz.prog none_ 60 103 (.call 103 [.agg (phC 2 b c n)] (startS Tryz.prog GP)) [.pure 103 1 1 [] (.bool true), .val 103 6 2 (iw (n + 1)), .val 103 6 3 (iw (mo n))] = some ({ e := .ret, ts := [.tuple [.agg [i8 3, i8 b, i8 c, iw (mo n)], .bool true]], s := ⟨⟨[(2, .cells true wfP)], 1, none, []⟩, 7⟩ }, [], [Qst.pure [] 64 [.agg [i8 2, i8 b, i8 c, iw n]] (.bool true), Qst.val (some (.int .u64 (Int.ofNat ((n + 1) % ((2 : Int) ^ IntKind.u64.bits).natAbs)))) (iw (n + 1)), Qst.val (some (.int .u64 (Int.ofNat ((n + 1) % 281474976710656)))) (iw (mo n))]) := by kernel_rfl
theorem rnx2_y (b c n : Nat) : runX Tryz.prog none_ 60 53 (.call 53 [.agg (phC 2 b c n)] (startS Tryz.prog [])) [.pure 53 1 1 [] (.bool true), .pure 53 7 6 [] (iw (mo n))] = some ({ e := .ret, ts := [.tuple [.agg [i8 3, i8 b, i8 c, iw (mo n)], .bool true]], s := ⟨⟨[], 0, none, []⟩, 5⟩ }, [], [Qst.pure [] 54 [.agg [i8 2, i8 b, i8 c, iw n]] (.bool true), Qst.pure [] 81 [iw n] (iw (mo n))]) := by kernel_rfl
theorem may3_o (b c n : Nat) : runX Tryz.prog none_ 60 64 (.call 64 [.agg (phC 3 b c n)] (startS Tryz.prog [])) [.pure 64 1 2 [] (.bool false)] = some ({ e := .ret, ts := [.bool false], s := ⟨⟨[], 0, none, []⟩, 4⟩ }, [], [Qst.pure [] 87 [i8 b] (.bool false)]) := by kernel_rfl
theorem rmay3_o (b c n : Nat) : runX Tryz.prog none_ 60 54 (.call 54 [.agg (phC 3 b c n)] (startS Tryz.prog [])) [.pure 54 7 2 [] (.bool false)] = some ({ e := .ret, ts := [.bool false], s := ⟨⟨[], 0, none, []⟩, 4⟩ }, [], [Qst.pure [] 82 [i8 b] (.bool false)]) := by kernel_rfl
theorem may3_c (b c n : Nat) : runX Tryz.prog none_ 60 64 (.call 64 [.agg (phC 3 b c n)] (startS Tryz.prog [])) [.pure 64 1 2 [] (.bool true), .pure 64 5 2 [] (.bool false)] = some ({ e := .ret, ts := [.bool false], s := ⟨⟨[], 0, none, []⟩, 4⟩ }, [], [Qst.pure [] 87 [i8 b] (.bool true), Qst.pure [] 87 [i8 c] (.bool false)]) := by kernel_rfl
theorem rmay3_c (b c n : Nat) : runX Tryz.prog none_ 60 54 (.call 54 [.agg (phC 3 b c n)] (startS Tryz.prog [])) [.pure 54 7 2 [] (.bool true), .pure 54 7 6 [] (.bool false)] = some ({ e := .ret, ts := [.bool false], s := ⟨⟨[], 0, none, []⟩, 4⟩ }, [], [Qst.pure [] 82 [i8 b] (.bool true), Qst.pure [] 82 [i8 c] (.bool false)]) := by kernel_rfl
theorem may3_0 (b c n : Nat) : runX Tryz.prog none_ 60 64 (.call 64 [.agg (phC 3 b c n)] (startS Tryz.prog [])) [.pure 64 1 2 [] (.bool true), .pure 64 5 2 [] (.bool true), .val 64 5 8 (.bool false)] = some ({ e := .ret, ts := [.bool false], s := ⟨⟨[], 0, none, []⟩, 4⟩ }, [], [Qst.pure [] 87 [i8 b] (.bool true), Qst.pure [] 87 [i8 c] (.bool true), Qst.val (some (.bool (Int.ofNat c != Int.ofNat b))) (.bool false)]) := by kernel_rfl
theorem rmay3_0 (b c n : Nat) : runX Tryz.prog none_ 60 54 (.call 54 [.agg (phC 3 b c n)] (startS Tryz.prog [])) [.pure 54 7 2 [] (.bool true), .pure 54 7 6 [] (.bool true), .val 54 7 13 (.bool false)] = some ({ e := .ret, ts := [.bool false], s := ⟨⟨[], 0, none, []⟩, 4⟩ }, [], [Qst.pure [] 82 [i8 b] (.bool true), Qst.pure [] 82 [i8 c] (.bool true), Qst.val (some (.bool (Int.ofNat b != Int.ofNat c))) (.bool false)]) := by kernel_rfl
theorem may3_1 (b c n : Nat) : runX Tryz.prog none_ 60 64 (.call 64 [.agg (phC 3 b c n)] (startS Tryz.prog [])) [.pure 64 1 2 [] (.bool true), .pure 64 5 2 [] (.bool true), .val 64 5 8 (.bool true)] = some ({ e := .ret, ts := [.bool true], s := ⟨⟨[], 0, none, []⟩, 4⟩ }, [], [Qst.pure [] 87 [i8 b] (.bool true), Qst.pure [] 87 [i8 c] (.bool true), Qst.val (some (.bool (Int.ofNat c != Int.ofNat b))) (.bool true)]) := by kernel_rfl
theorem rmay3_1 (b c n : Nat) : runX Tryz.prog none_ 60 54 (.call 54 [.agg (phC 3 b c n)] (startS Tryz.prog [])) [.pure 54 7 2 [] (.bool true), .pure 54 7 6 [] (.bool true), .val 54 7 13 (.bool true)] = some ({ e := .ret, ts := [.bool true], s := ⟨⟨[], 0, none, []⟩, 4⟩ }, [], [Qst.pure [] 82 [i8 b] (.bool true), Qst.pure [] 82 [i8 c] (.bool true), Qst.val (some (.bool (Int.ofNat b != Int.ofNat c))) (.bool true)]) := by kernel_rfl
theorem nx3_n (b c n : Nat) : runX Tryz.prog none_ 60 103 (.call 103 [.agg (phC 3 b c n)] (startS Tryz.prog GP)) [.pure 103 1 1 [] (.bool false)] = some ({ e := .ret, ts := [.tuple [.agg [i8 0, i8 0, i8 0, iw 0], .bool false]], s := ⟨⟨[(2, .cells true wfP)], 1, none, []⟩, 5⟩ }, [], [Qst.pure [] 64 [.agg [i8 3, i8 b, i8 c, iw n]] (.bool false)]) := by kernel_rfl
theorem rnx3_n (b c n : Nat) : runX Tryz.prog none_ 60 53 (.call 53 [.agg (phC 3 b c n)] (startS Tryz.prog [])) [.pure 53 1 1 [] (.bool false)] = some ({ e := .ret, ts := [.tuple [.agg [i8 0, i8 0, i8 0, iw 0], .bool false]], s := ⟨⟨[], 0, none, []⟩, 5⟩ }, [], [Qst.pure [] 54 [.agg [i8 3, i8 b, i8 c, iw n]] (.bool false)]) := by kernel_rfl
theorem nx3_y (b c n : Nat) : runX Tryz.prog none_ 60 103 (.call 103 [.agg (phC 3 b c n)] (startS Tryz.prog GP)) [.pure 103 1 1 [] (.bool true), .val 103 6 2 (iw (n + 1)), .val 103 6 3 (iw (mo n))] = some ({ e := .ret, ts := [.tuple [.agg [i8 0, i8 c, i8 0, iw (mo n)], .bool true]], s := ⟨⟨[(2, .cells true wfP)], 1, none, []⟩, 7⟩ }, [], [Qst.pure [] 64 [.agg [i8 3, i8 b, i8 c, iw n]] (.bool true), Qst.val (some (.int .u64 (Int.ofNat ((n + 1) % ((2 : Int) ^ IntKind.u64.bits).natAbs)))) (iw (n + 1)), Qst.val (some (.int .u64 (Int.ofNat ((n + 1) % 281474976710656)))) (iw (mo n))]) := by kernel_rfl
theorem rnx3_y (b c n : Nat) : runX Tryz.prog none_ 60 53 (.call 53 [.agg (phC 3 b c n)] (startS Tryz.prog [])) [.pure 53 1 1 [] (.bool true), .pure 53 9 4 [] (iw (mo n))] = some ({ e := .ret, ts := [.tuple [.agg [i8 0, i8 c, i8 0, iw (mo n)], .bool true]], s := ⟨⟨[], 0, none, []⟩, 5⟩ }, [], [Qst.pure [] 54 [.agg [i8 3, i8 b, i8 c, iw n]] (.bool true), Qst.pure [] 81 [iw n] (iw (mo n))]) := by kernel_rfl
theorem more_run (n : Nat) : runX Tryz.prog none_ 60 81 (.call 81 [iw n] (startS Tryz.prog [])) [.val 81 1 1 (iw (n + 1)), .val 81 1 2 (iw (mo n))] = some ({ e := .ret, ts := [iw (mo n)], s := ⟨⟨[], 0, none, []⟩, 3⟩ }, [], [Qst.val (some (.int .u64 (Int.ofNat ((n + 1) % ((2 : Int) ^ IntKind.u64.bits).natAbs)))) (iw (n + 1)), Qst.val (some (.int .u64 (Int.ofNat ((match BinOp.and with | BinOp.and => BitVec.ofInt IntKind.u64.bits (Int.ofNat (n + 1)) &&& BitVec.ofInt IntKind.u64.bits 281474976710655 | BinOp.or => BitVec.ofInt IntKind.u64.bits (Int.ofNat (n + 1)) ||| BitVec.ofInt IntKind.u64.bits 281474976710655 | BinOp.xor => BitVec.ofInt IntKind.u64.bits (Int.ofNat (n + 1)) ^^^ BitVec.ofInt IntKind.u64.bits 281474976710655 | _ => BitVec.ofInt IntKind.u64.bits (Int.ofNat (n + 1)) &&& ~~~BitVec.ofInt IntKind.u64.bits 281474976710655).toNat % ((2 : Int) ^ IntKind.u64.bits).natAbs)))) (iw (mo n))]) := by kernel_rfl
theorem bg_m (a b c n t : Nat) : runX Tryz.prog none_ 60 67 (.call 67 [.agg (phC a b c n), i8 t] (startS Tryz.prog [])) [.pure 67 1 1 [] (.bool false)] = some ({ e := .ret, ts := [.tuple [.agg [i8 0, i8 0, i8 0, iw 0], ii 1]], s := ⟨⟨[], 0, none, []⟩, 5⟩ }, [], [Qst.pure [] 64 [.agg [i8 a, i8 b, i8 c, iw n]] (.bool false)]) := by kernel_rfl
theorem bg_s (a b c n t : Nat) : runX Tryz.prog none_ 60 67 (.call 67 [.agg (phC a b c n), i8 t] (startS Tryz.prog [])) [.pure 67 1 1 [] (.bool true), .pure 67 1 5 [] (.bool false)] = some ({ e := .ret, ts := [.tuple [.agg [i8 0, i8 0, i8 0, iw 0], ii 1]], s := ⟨⟨[], 0, none, []⟩, 5⟩ }, [], [Qst.pure [] 64 [.agg [i8 a, i8 b, i8 c, iw n]] (.bool true), Qst.pure [] 87 [i8 t] (.bool false)]) := by kernel_rfl
theorem bg_b (a b c n t : Nat) : runX Tryz.prog none_ 60 67 (.call 67 [.agg (phC a b c n), i8 t] (startS Tryz.prog [])) [.pure 67 1 1 [] (.bool true), .pure 67 1 5 [] (.bool true), .val 67 3 2 (.bool true)] = some ({ e := .ret, ts := [.tuple [.agg [i8 0, i8 0, i8 0, iw 0], ii 7]], s := ⟨⟨[], 0, none, []⟩, 5⟩ }, [], [Qst.pure [] 64 [.agg [i8 a, i8 b, i8 c, iw n]] (.bool true), Qst.pure [] 87 [i8 t] (.bool true), Qst.val (some (.bool (Int.ofNat a != Int.ofNat 0))) (.bool true)]) := by kernel_rfl
theorem bg_e (a b c n t : Nat) : runX Tryz.prog none_ 60 67 (.call 67 [.agg (phC a b c n), i8 t] (startS Tryz.prog [])) [.pure 67 1 1 [] (.bool true), .pure 67 1 5 [] (.bool true), .val 67 3 2 (.bool false), .val 67 5 3 (.bool true)] = some ({ e := .ret, ts := [.tuple [.agg [i8 0, i8 0, i8 0, iw 0], ii 8]], s := ⟨⟨[], 0, none, []⟩, 5⟩ }, [], [Qst.pure [] 64 [.agg [i8 a, i8 b, i8 c, iw n]] (.bool true), Qst.pure [] 87 [i8 t] (.bool true), Qst.val (some (.bool (Int.ofNat a != Int.ofNat 0))) (.bool false), Qst.val (some (.bool (Int.ofNat t == Int.ofNat b))) (.bool true)]) := by kernel_rfl
theorem bg_y (a b c n t : Nat) : runX Tryz.prog none_ 60 67 (.call 67 [.agg (phC a b c n), i8 t] (startS Tryz.prog [])) [.pure 67 1 1 [] (.bool true), .pure 67 1 5 [] (.bool true), .val 67 3 2 (.bool false), .val 67 5 3 (.bool false), .val 67 7 5 (iw (n + 1)), .val 67 7 6 (iw (mo n))] = some ({ e := .ret, ts := [.tuple [.agg [i8 1, i8 b, i8 t, iw (mo n)], ii 0]], s := ⟨⟨[], 0, none, []⟩, 5⟩ }, [], [Qst.pure [] 64 [.agg [i8 a, i8 b, i8 c, iw n]] (.bool true), Qst.pure [] 87 [i8 t] (.bool true), Qst.val (some (.bool (Int.ofNat a != Int.ofNat 0))) (.bool false), Qst.val (some (.bool (Int.ofNat t == Int.ofNat b))) (.bool false), Qst.val (some (.int .u64 (Int.ofNat ((n + 1) % ((2 : Int) ^ IntKind.u64.bits).natAbs)))) (iw (n + 1)), Qst.val (some (.int .u64 (Int.ofNat ((n + 1) % 281474976710656)))) (iw (mo n))]) := by kernel_rfl
theorem rbg_m (a b c n t : Nat) : runX Tryz.prog none_ 60 56 (.call 56 [.agg (phC a b c n), i8 t] (startS Tryz.prog [])) [.pure 56 1 1 [] (.bool false)] = some ({ e := .ret, ts := [.tuple [.agg [i8 0, i8 0, i8 0, iw 0], ii 1]], s := ⟨⟨[], 0, none, []⟩, 5⟩ }, [], [Qst.pure [] 54 [.agg [i8 a, i8 b, i8 c, iw n]] (.bool false)]) := by kernel_rfl
theorem rbg_s (a b c n t : Nat) : runX Tryz.prog none_ 60 56 (.call 56 [.agg (phC a b c n), i8 t] (startS Tryz.prog [])) [.pure 56 1 1 [] (.bool true), .pure 56 1 5 [] (.bool false)] = some ({ e := .ret, ts := [.tuple [.agg [i8 0, i8 0, i8 0, iw 0], ii 1]], s := ⟨⟨[], 0, none, []⟩, 5⟩ }, [], [Qst.pure [] 54 [.agg [i8 a, i8 b, i8 c, iw n]] (.bool true), Qst.pure [] 82 [i8 t] (.bool false)]) := by kernel_rfl
theorem rbg_b (a b c n t : Nat) : runX Tryz.prog none_ 60 56 (.call 56 [.agg (phC a b c n), i8 t] (startS Tryz.prog [])) [.pure 56 1 1 [] (.bool true), .pure 56 1 5 [] (.bool true), .val 56 3 2 (.bool true)] = some ({ e := .ret, ts := [.tuple [.agg [i8 0, i8 0, i8 0, iw 0], ii 7]], s := ⟨⟨[], 0, none, []⟩, 5⟩ }, [], [Qst.pure [] 54 [.agg [i8 a, i8 b, i8 c, iw n]] (.bool true), Qst.pure [] 82 [i8 t] (.bool true), Qst.val (some (.bool (Int.ofNat a != Int.ofNat 0))) (.bool true)]) := by kernel_rfl
theorem rbg_e (a b c n t : Nat) : runX Tryz.prog none_ 60 56 (.call 56 [.agg (phC a b c n), i8 t] (startS Tryz.prog [])) [.pure 56 1 1 [] (.bool true), .pure 56 1 5 [] (.bool true), .val 56 3 2 (.bool false), .val 56 5 3 (.bool true)] = some ({ e := .ret, ts := [.tuple [.agg [i8 0, i8 0, i8 0, iw 0], ii 8]], s := ⟨⟨[], 0, none, []⟩, 5⟩ }, [], [Qst.pure [] 54 [.agg [i8 a, i8 b, i8 c, iw n]] (.bool true), Qst.pure [] 82 [i8 t] (.bool true), Qst.val (some (.bool (Int.ofNat a != Int.ofNat 0))) (.bool false), Qst.val (some (.bool (Int.ofNat b == Int.ofNat t))) (.bool true)]) := by kernel_rfl
theorem rbg_y (a b c n t : Nat) : runX Tryz.prog none_ 60 56 (.call 56 [.agg (phC a b c n), i8 t] (startS Tryz.prog [])) [.pure 56 1 1 [] (.bool true), .pure 56 1 5 [] (.bool true), .val 56 3 2 (.bool false), .val 56 5 3 (.bool false), .pure 56 7 5 [] (iw (mo n))] = some ({ e := .ret, ts := [.tuple [.agg [i8 1, i8 b, i8 t, iw (mo n)], ii 0]], s := ⟨⟨[], 0, none, []⟩, 5⟩ }, [], [Qst.pure [] 54 [.agg [i8 a, i8 b, i8 c, iw n]] (.bool true), Qst.pure [] 82 [i8 t] (.bool true), Qst.val (some (.bool (Int.ofNat a != Int.ofNat 0))) (.bool false), Qst.val (some (.bool (Int.ofNat b == Int.ofNat t))) (.bool false), Qst.pure [] 81 [iw n] (iw (mo n))]) := by kernel_rfl
theorem sgl_call (s : Nat) (st : AS) : Sound Tryz.prog (.call 87 [.int .u8 (Int.ofNat s)] st) ⟨.ret, [.bool (sg s)], st⟩ := by
  match s with
  | 0 => exact Sound.pure (G := []) (runX_sound mixed none_sound sgl_0 trivial) rfl rfl rfl rfl
  | 1 => exact Sound.pure (G := []) (runX_sound mixed none_sound sgl_1 trivial) rfl rfl rfl rfl
  | 2 => exact Sound.pure (G := []) (runX_sound mixed none_sound sgl_2 trivial) rfl rfl rfl rfl
  | 3 => exact Sound.pure (G := []) (runX_sound mixed none_sound sgl_3 trivial) rfl rfl rfl rfl
  | 4 => exact Sound.pure (G := []) (runX_sound mixed none_sound sgl_4 trivial) rfl rfl rfl rfl
  | s + 5 =>
    rw [show sg (s + 5) = false from by simp [sg]]
    exact Sound.pure (G := []) (runX_sound mixed none_sound (sgl_n (s + 5)) ⟨by simp [Qst.ok]; omega, trivial⟩) rfl rfl rfl rfl
theorem qeq (x y : Nat) (v : Bool) (h : v = decide (x = y)) : some (AV.bool (Int.ofNat x == Int.ofNat y)) = some (AV.bool v) := by
  subst h
  by_cases h : x = y
  · simp [h]
  · simp [h]
    omega
theorem qne (x y : Nat) (v : Bool) (h : v = decide (x ≠ y)) : some (AV.bool (Int.ofNat x != Int.ofNat y)) = some (AV.bool v) := by
  subst h
  by_cases h : x = y
  · simp [h]
  · simp [h]
    omega
theorem rsgl_call (s : Nat) (st : AS) : Sound Tryz.prog (.call 82 [.int .u8 (Int.ofNat s)] st) ⟨.ret, [.bool (sg s)], st⟩ := by
  by_cases h1 : s = 1
  · rw [show sg s = true from by simp [sg, h1]]
    exact Sound.pure (G := []) (runX_sound mixed none_sound (rsgl_1 s) ⟨qeq s 1 true (by simp [h1]), trivial⟩) rfl rfl rfl rfl
  · by_cases h2 : s = 2
    · rw [show sg s = true from by simp [sg, h2]]
      exact Sound.pure (G := []) (runX_sound mixed none_sound (rsgl_2 s) ⟨qeq s 1 false (by simp [h1]), qeq s 2 true (by simp [h2]), trivial⟩) rfl rfl rfl rfl
    · by_cases h4 : s = 4
      · rw [show sg s = true from by simp [sg, h4]]
        exact Sound.pure (G := []) (runX_sound mixed none_sound (rsgl_4 s) ⟨qeq s 1 false (by simp [h1]), qeq s 2 false (by simp [h2]), qeq s 4 true (by simp [h4]), trivial⟩) rfl rfl rfl rfl
      · rw [show sg s = false from by simp [sg, h1, h2, h4]]
        exact Sound.pure (G := []) (runX_sound mixed none_sound (rsgl_n s) ⟨qeq s 1 false (by simp [h1]), qeq s 2 false (by simp [h2]), qeq s 4 false (by simp [h4]), trivial⟩) rfl rfl rfl rfl
theorem sgP (x : Nat) (v : Bool) (h : sg x = v) : Qst.ok Tryz.prog (.pure [] 87 [.int .u8 (Int.ofNat x)] (.bool v)) := fun s _ => h ▸ sgl_call x s
theorem sgR (x : Nat) (v : Bool) (h : sg x = v) : Qst.ok Tryz.prog (.pure [] 82 [.int .u8 (Int.ofNat x)] (.bool v)) := fun s _ => h ▸ rsgl_call x s
theorem may_call (a b c n : Nat) (ha : a ≤ 3) (st : AS) : Sound Tryz.prog (.call 64 [.agg (phC a b c n)] st) ⟨.ret, [.bool (mayP a b c)], st⟩ := by
  match a, ha with
  | 0, _ =>
    by_cases hb : sg b = true
    · by_cases hc : c = 0
      · rw [show mayP 0 b c = true from by simp [mayP, hb, hc]]
        exact Sound.pure (G := []) (runX_sound mixed none_sound (may0_1 b c n) ⟨sgP b _ hb, qeq c 0 true (by simp [hc]), trivial⟩) rfl rfl rfl rfl
      · rw [show mayP 0 b c = false from by simp [mayP, hb, hc]]
        exact Sound.pure (G := []) (runX_sound mixed none_sound (may0_0 b c n) ⟨sgP b _ hb, qeq c 0 false (by simp [hc]), trivial⟩) rfl rfl rfl rfl
    · rw [show mayP 0 b c = false from by simp [mayP, hb]]
      exact Sound.pure (G := []) (runX_sound mixed none_sound (may0_o b c n) ⟨sgP b _ (by simpa using hb), trivial⟩) rfl rfl rfl rfl
  | 1, _ =>
    by_cases hb : sg b = true
    · by_cases hc : sg c = true
      · by_cases hn : c = b
        · rw [show mayP 1 b c = false from by simp [mayP, hb, hn]]
          exact Sound.pure (G := []) (runX_sound mixed none_sound (may1_0 b c n) ⟨sgP b _ hb, sgP c _ hc, qne c b false (by simp [hn]), trivial⟩) rfl rfl rfl rfl
        · rw [show mayP 1 b c = true from by simp [mayP, hb, hc, hn]]
          exact Sound.pure (G := []) (runX_sound mixed none_sound (may1_1 b c n) ⟨sgP b _ hb, sgP c _ hc, qne c b true (by simp [hn]), trivial⟩) rfl rfl rfl rfl
      · rw [show mayP 1 b c = false from by simp [mayP, hb, hc]]
        exact Sound.pure (G := []) (runX_sound mixed none_sound (may1_c b c n) ⟨sgP b _ hb, sgP c _ (by simpa using hc), trivial⟩) rfl rfl rfl rfl
    · rw [show mayP 1 b c = false from by simp [mayP, hb]]
      exact Sound.pure (G := []) (runX_sound mixed none_sound (may1_o b c n) ⟨sgP b _ (by simpa using hb), trivial⟩) rfl rfl rfl rfl
  | 2, _ =>
    by_cases hb : sg b = true
    · by_cases hc : sg c = true
      · by_cases hn : c = b
        · rw [show mayP 2 b c = false from by simp [mayP, hb, hn]]
          exact Sound.pure (G := []) (runX_sound mixed none_sound (may2_0 b c n) ⟨sgP b _ hb, sgP c _ hc, qne c b false (by simp [hn]), trivial⟩) rfl rfl rfl rfl
        · rw [show mayP 2 b c = true from by simp [mayP, hb, hc, hn]]
          exact Sound.pure (G := []) (runX_sound mixed none_sound (may2_1 b c n) ⟨sgP b _ hb, sgP c _ hc, qne c b true (by simp [hn]), trivial⟩) rfl rfl rfl rfl
      · rw [show mayP 2 b c = false from by simp [mayP, hb, hc]]
        exact Sound.pure (G := []) (runX_sound mixed none_sound (may2_c b c n) ⟨sgP b _ hb, sgP c _ (by simpa using hc), trivial⟩) rfl rfl rfl rfl
    · rw [show mayP 2 b c = false from by simp [mayP, hb]]
      exact Sound.pure (G := []) (runX_sound mixed none_sound (may2_o b c n) ⟨sgP b _ (by simpa using hb), trivial⟩) rfl rfl rfl rfl
  | 3, _ =>
    by_cases hb : sg b = true
    · by_cases hc : sg c = true
      · by_cases hn : c = b
        · rw [show mayP 3 b c = false from by simp [mayP, hb, hn]]
          exact Sound.pure (G := []) (runX_sound mixed none_sound (may3_0 b c n) ⟨sgP b _ hb, sgP c _ hc, qne c b false (by simp [hn]), trivial⟩) rfl rfl rfl rfl
        · rw [show mayP 3 b c = true from by simp [mayP, hb, hc, hn]]
          exact Sound.pure (G := []) (runX_sound mixed none_sound (may3_1 b c n) ⟨sgP b _ hb, sgP c _ hc, qne c b true (by simp [hn]), trivial⟩) rfl rfl rfl rfl
      · rw [show mayP 3 b c = false from by simp [mayP, hb, hc]]
        exact Sound.pure (G := []) (runX_sound mixed none_sound (may3_c b c n) ⟨sgP b _ hb, sgP c _ (by simpa using hc), trivial⟩) rfl rfl rfl rfl
    · rw [show mayP 3 b c = false from by simp [mayP, hb]]
      exact Sound.pure (G := []) (runX_sound mixed none_sound (may3_o b c n) ⟨sgP b _ (by simpa using hb), trivial⟩) rfl rfl rfl rfl
theorem rmay_call (a b c n : Nat) (ha : a ≤ 3) (st : AS) : Sound Tryz.prog (.call 54 [.agg (phC a b c n)] st) ⟨.ret, [.bool (mayP a b c)], st⟩ := by
  match a, ha with
  | 0, _ =>
    by_cases hb : sg b = true
    · by_cases hc : c = 0
      · rw [show mayP 0 b c = true from by simp [mayP, hb, hc]]
        exact Sound.pure (G := []) (runX_sound mixed none_sound (rmay0_1 b c n) ⟨sgR b _ hb, qeq c 0 true (by simp [hc]), trivial⟩) rfl rfl rfl rfl
      · rw [show mayP 0 b c = false from by simp [mayP, hb, hc]]
        exact Sound.pure (G := []) (runX_sound mixed none_sound (rmay0_0 b c n) ⟨sgR b _ hb, qeq c 0 false (by simp [hc]), trivial⟩) rfl rfl rfl rfl
    · rw [show mayP 0 b c = false from by simp [mayP, hb]]
      exact Sound.pure (G := []) (runX_sound mixed none_sound (rmay0_o b c n) ⟨sgR b _ (by simpa using hb), trivial⟩) rfl rfl rfl rfl
  | 1, _ =>
    by_cases hb : sg b = true
    · by_cases hc : sg c = true
      · by_cases hn : c = b
        · rw [show mayP 1 b c = false from by simp [mayP, hb, hn]]
          exact Sound.pure (G := []) (runX_sound mixed none_sound (rmay1_0 b c n) ⟨sgR b _ hb, sgR c _ hc, qne b c false (by have := @eq_comm _ b c; simp [hn]), trivial⟩) rfl rfl rfl rfl
        · rw [show mayP 1 b c = true from by simp [mayP, hb, hc, hn]]
          exact Sound.pure (G := []) (runX_sound mixed none_sound (rmay1_1 b c n) ⟨sgR b _ hb, sgR c _ hc, qne b c true (by have := @eq_comm _ b c; simp [this, hn]), trivial⟩) rfl rfl rfl rfl
      · rw [show mayP 1 b c = false from by simp [mayP, hb, hc]]
        exact Sound.pure (G := []) (runX_sound mixed none_sound (rmay1_c b c n) ⟨sgR b _ hb, sgR c _ (by simpa using hc), trivial⟩) rfl rfl rfl rfl
    · rw [show mayP 1 b c = false from by simp [mayP, hb]]
      exact Sound.pure (G := []) (runX_sound mixed none_sound (rmay1_o b c n) ⟨sgR b _ (by simpa using hb), trivial⟩) rfl rfl rfl rfl
  | 2, _ =>
    by_cases hb : sg b = true
    · by_cases hc : sg c = true
      · by_cases hn : c = b
        · rw [show mayP 2 b c = false from by simp [mayP, hb, hn]]
          exact Sound.pure (G := []) (runX_sound mixed none_sound (rmay2_0 b c n) ⟨sgR b _ hb, sgR c _ hc, qne b c false (by have := @eq_comm _ b c; simp [hn]), trivial⟩) rfl rfl rfl rfl
        · rw [show mayP 2 b c = true from by simp [mayP, hb, hc, hn]]
          exact Sound.pure (G := []) (runX_sound mixed none_sound (rmay2_1 b c n) ⟨sgR b _ hb, sgR c _ hc, qne b c true (by have := @eq_comm _ b c; simp [this, hn]), trivial⟩) rfl rfl rfl rfl
      · rw [show mayP 2 b c = false from by simp [mayP, hb, hc]]
        exact Sound.pure (G := []) (runX_sound mixed none_sound (rmay2_c b c n) ⟨sgR b _ hb, sgR c _ (by simpa using hc), trivial⟩) rfl rfl rfl rfl
    · rw [show mayP 2 b c = false from by simp [mayP, hb]]
      exact Sound.pure (G := []) (runX_sound mixed none_sound (rmay2_o b c n) ⟨sgR b _ (by simpa using hb), trivial⟩) rfl rfl rfl rfl
  | 3, _ =>
    by_cases hb : sg b = true
    · by_cases hc : sg c = true
      · by_cases hn : c = b
        · rw [show mayP 3 b c = false from by simp [mayP, hb, hn]]
          exact Sound.pure (G := []) (runX_sound mixed none_sound (rmay3_0 b c n) ⟨sgR b _ hb, sgR c _ hc, qne b c false (by have := @eq_comm _ b c; simp [hn]), trivial⟩) rfl rfl rfl rfl
        · rw [show mayP 3 b c = true from by simp [mayP, hb, hc, hn]]
          exact Sound.pure (G := []) (runX_sound mixed none_sound (rmay3_1 b c n) ⟨sgR b _ hb, sgR c _ hc, qne b c true (by have := @eq_comm _ b c; simp [this, hn]), trivial⟩) rfl rfl rfl rfl
      · rw [show mayP 3 b c = false from by simp [mayP, hb, hc]]
        exact Sound.pure (G := []) (runX_sound mixed none_sound (rmay3_c b c n) ⟨sgR b _ hb, sgR c _ (by simpa using hc), trivial⟩) rfl rfl rfl rfl
    · rw [show mayP 3 b c = false from by simp [mayP, hb]]
      exact Sound.pure (G := []) (runX_sound mixed none_sound (rmay3_o b c n) ⟨sgR b _ (by simpa using hb), trivial⟩) rfl rfl rfl rfl
theorem mayPq (a b c n : Nat) (v : Bool) (ha : a ≤ 3) (h : mayP a b c = v) : Qst.ok Tryz.prog (.pure [] 64 [.agg (phC a b c n)] (.bool v)) := fun s _ => h ▸ may_call a b c n ha s
theorem mayRq (a b c n : Nat) (v : Bool) (ha : a ≤ 3) (h : mayP a b c = v) : Qst.ok Tryz.prog (.pure [] 54 [.agg (phC a b c n)] (.bool v)) := fun s _ => h ▸ rmay_call a b c n ha s
theorem q_inc (n : Nat) (hn : n < 281474976710656) : some (AV.int .u64 (Int.ofNat ((n + 1) % ((2 : Int) ^ IntKind.u64.bits).natAbs))) = some (AV.int .u64 (Int.ofNat (n + 1))) := w_conv .u64 (n + 1) _ nat64 (by omega)
theorem more_call (n : Nat) (hn : n < 281474976710656) (s : AS) : Sound Tryz.prog (.call 81 [.int .u64 (Int.ofNat n)] s) ⟨.ret, [.int .u64 (Int.ofNat (mo n))], s⟩ := by
  refine Sound.pure (G := []) (runX_sound mixed none_sound (more_run n) ⟨q_inc n hn, ?_, trivial⟩) rfl rfl rfl rfl
  have h := mask_and (n + 1) 48 (by omega) (by omega)
  refine Eq.trans (congrArg (fun n : Nat => some (AV.int IntKind.u64 (Int.ofNat (n % ((2 : Int) ^ IntKind.u64.bits).natAbs)))) h) ?_
  have h2 : (n + 1) % 2 ^ 48 < 281474976710656 := Nat.mod_lt _ (by omega)
  rw [nat64, Nat.mod_eq_of_lt (by omega)]
  rfl
theorem moreq (n : Nat) (hn : n < 281474976710656) : Qst.ok Tryz.prog (.pure [] 81 [.int .u64 (Int.ofNat n)] (.int .u64 (Int.ofNat (mo n)))) := fun s _ => more_call n hn s
theorem q_rem (n : Nat) : some (AV.int .u64 ((Int.ofNat (n + 1)).tmod 281474976710656)) = some (AV.int .u64 (Int.ofNat (mo n))) := rfl
theorem next_call (a b c n : Nat) (ha : a ≤ 3) (hn : n < 281474976710656) (st : AS) (hG : hasG st GP = true) : Sound Tryz.prog (.call 103 [.agg (phC a b c n)] st) ⟨.ret, [.tuple [.agg (nextP a b c n), .bool (mayP a b c && decide (a ≠ 0))]], st⟩ := by
  match a, ha with
  | 0, _ =>
    by_cases hm : mayP 0 b c = true
    · have e : nextP 0 b c n = phC 0 0 0 0 := by simp [nextP]
      rw [e, hm]
      exact Sound.pure (G := GP) (runX_sound mixed none_sound (nx0_y b c n) ⟨mayPq 0 b c n _ (by omega) hm, trivial⟩) (by kernel_rfl) rfl rfl hG
    · have hm : mayP 0 b c = false := by simpa using hm
      have e : nextP 0 b c n = phC 0 0 0 0 := by simp [nextP, hm]
      rw [e, hm]
      exact Sound.pure (G := GP) (runX_sound mixed none_sound (nx0_n b c n) ⟨mayPq 0 b c n _ (by omega) hm, trivial⟩) (by kernel_rfl) rfl rfl hG
  | 1, _ =>
    by_cases hm : mayP 1 b c = true
    · have e : nextP 1 b c n = phC 2 b c (mo n) := by simp [nextP, hm]
      rw [e, hm]
      exact Sound.pure (G := GP) (runX_sound mixed none_sound (nx1_y b c n) ⟨mayPq 1 b c n _ (by omega) hm, q_inc n hn, q_rem n, trivial⟩) (by kernel_rfl) rfl rfl hG
    · have hm : mayP 1 b c = false := by simpa using hm
      have e : nextP 1 b c n = phC 0 0 0 0 := by simp [nextP, hm]
      rw [e, hm]
      exact Sound.pure (G := GP) (runX_sound mixed none_sound (nx1_n b c n) ⟨mayPq 1 b c n _ (by omega) hm, trivial⟩) (by kernel_rfl) rfl rfl hG
  | 2, _ =>
    by_cases hm : mayP 2 b c = true
    · have e : nextP 2 b c n = phC 3 b c (mo n) := by simp [nextP, hm]
      rw [e, hm]
      exact Sound.pure (G := GP) (runX_sound mixed none_sound (nx2_y b c n) ⟨mayPq 2 b c n _ (by omega) hm, q_inc n hn, q_rem n, trivial⟩) (by kernel_rfl) rfl rfl hG
    · have hm : mayP 2 b c = false := by simpa using hm
      have e : nextP 2 b c n = phC 0 0 0 0 := by simp [nextP, hm]
      rw [e, hm]
      exact Sound.pure (G := GP) (runX_sound mixed none_sound (nx2_n b c n) ⟨mayPq 2 b c n _ (by omega) hm, trivial⟩) (by kernel_rfl) rfl rfl hG
  | 3, _ =>
    by_cases hm : mayP 3 b c = true
    · have e : nextP 3 b c n = phC 0 c 0 (mo n) := by simp [nextP, hm]
      rw [e, hm]
      exact Sound.pure (G := GP) (runX_sound mixed none_sound (nx3_y b c n) ⟨mayPq 3 b c n _ (by omega) hm, q_inc n hn, q_rem n, trivial⟩) (by kernel_rfl) rfl rfl hG
    · have hm : mayP 3 b c = false := by simpa using hm
      have e : nextP 3 b c n = phC 0 0 0 0 := by simp [nextP, hm]
      rw [e, hm]
      exact Sound.pure (G := GP) (runX_sound mixed none_sound (nx3_n b c n) ⟨mayPq 3 b c n _ (by omega) hm, trivial⟩) (by kernel_rfl) rfl rfl hG
theorem rnext_call (a b c n : Nat) (ha : a ≤ 3) (hn : n < 281474976710656) (st : AS) : Sound Tryz.prog (.call 53 [.agg (phC a b c n)] st) ⟨.ret, [.tuple [.agg (nextP a b c n), .bool (mayP a b c && decide (a ≠ 0))]], st⟩ := by
  match a, ha with
  | 0, _ =>
    by_cases hm : mayP 0 b c = true
    · have e : nextP 0 b c n = phC 0 0 0 0 := by simp [nextP]
      rw [e, hm]
      exact Sound.pure (G := []) (runX_sound mixed none_sound (rnx0_y b c n) ⟨mayRq 0 b c n _ (by omega) hm, trivial⟩) rfl rfl rfl rfl
    · have hm : mayP 0 b c = false := by simpa using hm
      have e : nextP 0 b c n = phC 0 0 0 0 := by simp [nextP, hm]
      rw [e, hm]
      exact Sound.pure (G := []) (runX_sound mixed none_sound (rnx0_n b c n) ⟨mayRq 0 b c n _ (by omega) hm, trivial⟩) rfl rfl rfl rfl
  | 1, _ =>
    by_cases hm : mayP 1 b c = true
    · have e : nextP 1 b c n = phC 2 b c (mo n) := by simp [nextP, hm]
      rw [e, hm]
      exact Sound.pure (G := []) (runX_sound mixed none_sound (rnx1_y b c n) ⟨mayRq 1 b c n _ (by omega) hm, moreq n hn, trivial⟩) rfl rfl rfl rfl
    · have hm : mayP 1 b c = false := by simpa using hm
      have e : nextP 1 b c n = phC 0 0 0 0 := by simp [nextP, hm]
      rw [e, hm]
      exact Sound.pure (G := []) (runX_sound mixed none_sound (rnx1_n b c n) ⟨mayRq 1 b c n _ (by omega) hm, trivial⟩) rfl rfl rfl rfl
  | 2, _ =>
    by_cases hm : mayP 2 b c = true
    · have e : nextP 2 b c n = phC 3 b c (mo n) := by simp [nextP, hm]
      rw [e, hm]
      exact Sound.pure (G := []) (runX_sound mixed none_sound (rnx2_y b c n) ⟨mayRq 2 b c n _ (by omega) hm, moreq n hn, trivial⟩) rfl rfl rfl rfl
    · have hm : mayP 2 b c = false := by simpa using hm
      have e : nextP 2 b c n = phC 0 0 0 0 := by simp [nextP, hm]
      rw [e, hm]
      exact Sound.pure (G := []) (runX_sound mixed none_sound (rnx2_n b c n) ⟨mayRq 2 b c n _ (by omega) hm, trivial⟩) rfl rfl rfl rfl
  | 3, _ =>
    by_cases hm : mayP 3 b c = true
    · have e : nextP 3 b c n = phC 0 c 0 (mo n) := by simp [nextP, hm]
      rw [e, hm]
      exact Sound.pure (G := []) (runX_sound mixed none_sound (rnx3_y b c n) ⟨mayRq 3 b c n _ (by omega) hm, moreq n hn, trivial⟩) rfl rfl rfl rfl
    · have hm : mayP 3 b c = false := by simpa using hm
      have e : nextP 3 b c n = phC 0 0 0 0 := by simp [nextP, hm]
      rw [e, hm]
      exact Sound.pure (G := []) (runX_sound mixed none_sound (rnx3_n b c n) ⟨mayRq 3 b c n _ (by omega) hm, trivial⟩) rfl rfl rfl rfl
theorem begin_call (a b c n t : Nat) (ha : a ≤ 3) (hn : n < 281474976710656) (st : AS) : Sound Tryz.prog (.call 67 [.agg (phC a b c n), .int .u8 (Int.ofNat t)] st) ⟨.ret, [.tuple [.agg (begP a b c n t).1, .int .i64 (Int.ofNat (begP a b c n t).2)]], st⟩ := by
  by_cases hm : mayP a b c = true
  · by_cases hs : sg t = true
    · by_cases h0 : a = 0
      · by_cases he : t = b
        · rw [show begP a b c n t = (phC 0 0 0 0, 8) from by simp [begP, h0, he] <;> simp_all]
          exact Sound.pure (G := []) (runX_sound mixed none_sound (bg_e a b c n t) ⟨mayPq a b c n _ ha hm, sgP t _ hs, qne a 0 false (by simp [h0]), qeq t b true (by simp [he]), trivial⟩) rfl rfl rfl rfl
        · rw [show begP a b c n t = (phC 1 b t (mo n), 0) from by simp [begP, hs, h0, he] <;> simp_all]
          exact Sound.pure (G := []) (runX_sound mixed none_sound (bg_y a b c n t) ⟨mayPq a b c n _ ha hm, sgP t _ hs, qne a 0 false (by simp [h0]), qeq t b false (by simp [he]), q_inc n hn, q_rem n, trivial⟩) rfl rfl rfl rfl
      · rw [show begP a b c n t = (phC 0 0 0 0, 7) from by simp [begP, hm, hs, h0]]
        exact Sound.pure (G := []) (runX_sound mixed none_sound (bg_b a b c n t) ⟨mayPq a b c n _ ha hm, sgP t _ hs, qne a 0 true (by simp [h0]), trivial⟩) rfl rfl rfl rfl
    · rw [show begP a b c n t = (phC 0 0 0 0, 1) from by simp [begP, hs]]
      exact Sound.pure (G := []) (runX_sound mixed none_sound (bg_s a b c n t) ⟨mayPq a b c n _ ha hm, sgP t _ (by simpa using hs), trivial⟩) rfl rfl rfl rfl
  · rw [show begP a b c n t = (phC 0 0 0 0, 1) from by simp [begP, hm]]
    exact Sound.pure (G := []) (runX_sound mixed none_sound (bg_m a b c n t) ⟨mayPq a b c n _ ha (by simpa using hm), trivial⟩) rfl rfl rfl rfl
theorem rbegin_call (a b c n t : Nat) (ha : a ≤ 3) (hn : n < 281474976710656) (st : AS) : Sound Tryz.prog (.call 56 [.agg (phC a b c n), .int .u8 (Int.ofNat t)] st) ⟨.ret, [.tuple [.agg (begP a b c n t).1, .int .i64 (Int.ofNat (begP a b c n t).2)]], st⟩ := by
  by_cases hm : mayP a b c = true
  · by_cases hs : sg t = true
    · by_cases h0 : a = 0
      · by_cases he : t = b
        · rw [show begP a b c n t = (phC 0 0 0 0, 8) from by simp [begP, h0, he] <;> simp_all]
          exact Sound.pure (G := []) (runX_sound mixed none_sound (rbg_e a b c n t) ⟨mayRq a b c n _ ha hm, sgR t _ hs, qne a 0 false (by simp [h0]), qeq b t true (by simp [he]), trivial⟩) rfl rfl rfl rfl
        · rw [show begP a b c n t = (phC 1 b t (mo n), 0) from by simp [begP, hs, h0, he] <;> simp_all]
          exact Sound.pure (G := []) (runX_sound mixed none_sound (rbg_y a b c n t) ⟨mayRq a b c n _ ha hm, sgR t _ hs, qne a 0 false (by simp [h0]), qeq b t false (by have := @eq_comm _ b t; simp [this, he]), moreq n hn, trivial⟩) rfl rfl rfl rfl
      · rw [show begP a b c n t = (phC 0 0 0 0, 7) from by simp [begP, hm, hs, h0]]
        exact Sound.pure (G := []) (runX_sound mixed none_sound (rbg_b a b c n t) ⟨mayRq a b c n _ ha hm, sgR t _ hs, qne a 0 true (by simp [h0]), trivial⟩) rfl rfl rfl rfl
    · rw [show begP a b c n t = (phC 0 0 0 0, 1) from by simp [begP, hs]]
      exact Sound.pure (G := []) (runX_sound mixed none_sound (rbg_s a b c n t) ⟨mayRq a b c n _ ha hm, sgR t _ (by simpa using hs), trivial⟩) rfl rfl rfl rfl
  · rw [show begP a b c n t = (phC 0 0 0 0, 1) from by simp [begP, hm]]
    exact Sound.pure (G := []) (runX_sound mixed none_sound (rbg_m a b c n t) ⟨mayRq a b c n _ ha (by simpa using hm), trivial⟩) rfl rfl rfl rfl
end Go.Proofs.YtchekpapgfojhaaGreatDoor.ctlsFallback
