/- The bit of a word, as the document takes it, and what is used everywhere else. Conditions: those that each theorem names, and no others. -/
import Derived.Test.YtipadnlhcnmgaaaDoorMini2
import Derived.Test.YtipadnlhcnmgaaaDoorChecked
namespace Go.Proofs.YtipadnlhcnmgaaaDoor.boundsLook
open Go Go.Mini
theorem mixed : Tryd.prog.follows .mixedOrders = true := by kernel_rfl
def none_ : Go.Mini.Task → Option Res := fun _ => none
theorem none_sound : ∀ t r, none_ t = some r → Sound Tryd.prog t r := fun _ _ h => by cases h

theorem u64_wrap {x : Int} (h0 : 0 ≤ x) (h1 : x < 18446744073709551616) : IntKind.u64.wrap x = x := by
  simp [IntKind.wrap, IntKind.bits, IntKind.signed]; omega
theorem i64_wrap {x : Int} (h0 : -9223372036854775808 ≤ x) (h1 : x < 9223372036854775808) : IntKind.i64.wrap x = x := by
  simp [IntKind.wrap, IntKind.bits, IntKind.signed]; omega

/-! ### ref01.bit -/
def Tb (w : Int) (k i : Nat) (a8 : AV) : List AV := [.int .u64 w, .int .i64 (Int.ofNat i), undefA, undefA, .int .u64 0, .int .i64 (Int.ofNat k), junkA, junkA, a8, junkA, junkA, junkA, junkA, undefA, undefA]
theorem bit_go (w : Int) (k i : Nat) (a8 : AV) : runX Tryd.prog none_ 50 99 (.code (loopAt Tryd.prog 99 0) (Tb w k i a8) ⟨⟨[], 0, none, []⟩, 2⟩) [.val 99 2 2 (.bool true)] = some ({ e := AExit.normal, ts := [AV.int IntKind.u64 (IntKind.u64.wrap (w.tdiv (Int.ofNat 2))), AV.int IntKind.i64 (Int.ofNat i), AV.tuple [], AV.tuple [], AV.int IntKind.u64 (Int.ofNat 0), AV.int IntKind.i64 (IntKind.i64.wrap (Int.ofNat (k + 1))), AV.int IntKind.i64 (Int.ofNat k), AV.int IntKind.i64 (Int.ofNat i), AV.bool true, AV.int IntKind.i64 (Int.ofNat k), AV.int IntKind.i64 (IntKind.i64.wrap (Int.ofNat (k + 1))), AV.int IntKind.u64 w, AV.int IntKind.u64 (IntKind.u64.wrap (w.tdiv (Int.ofNat 2))), AV.tuple [], AV.tuple []], s := { h := { bs := [], len := 0, esc := none, wr := [] }, nx := 2 } }, [], [Qst.val (some (AV.bool (decide (Int.ofNat k < Int.ofNat i)))) (AV.bool true)]) := by kernel_rfl
theorem bit_end (w : Int) (k i : Nat) (a8 : AV) : runX Tryd.prog none_ 50 99 (.code (loopAt Tryd.prog 99 0) (Tb w k i a8) ⟨⟨[], 0, none, []⟩, 2⟩) [.val 99 2 2 (.bool false)] = some ({ e := AExit.exit 0, ts := [AV.int IntKind.u64 w, AV.int IntKind.i64 (Int.ofNat i), AV.tuple [], AV.tuple [], AV.int IntKind.u64 (Int.ofNat 0), AV.int IntKind.i64 (Int.ofNat k), AV.int IntKind.i64 (Int.ofNat k), AV.int IntKind.i64 (Int.ofNat i), AV.bool false, AV.tuple [AV.nilMap], AV.tuple [AV.nilMap], AV.tuple [AV.nilMap], AV.tuple [AV.nilMap], AV.tuple [], AV.tuple []], s := { h := { bs := [], len := 0, esc := none, wr := [] }, nx := 2 } }, [], [Qst.val (some (AV.bool (decide (Int.ofNat k < Int.ofNat i)))) (AV.bool false)]) := by kernel_rfl
structure SB (i : Nat) where
  w : Nat
  k : Nat
  a : AV
  hw : w < 18446744073709551616
  hk : k ≤ i
theorem half (w : Nat) (h : w < 18446744073709551616) : IntKind.u64.wrap ((Int.ofNat w).tdiv (Int.ofNat 2)) = Int.ofNat (w / 2) := by
  rw [show (Int.ofNat w).tdiv (Int.ofNat 2) = Int.ofNat (w / 2) from rfl]
  exact u64_wrap (by simp; omega) (by simp; omega)
theorem bit_loop (i : Nat) (hi : i < 1000) (st : SB i) : SoundL Tryd.prog [] (.loop (loopAt Tryd.prog 99 0)) (Tb (Int.ofNat st.w) st.k i st.a) [] 0 2 (.exit 0) (Tb (Int.ofNat (st.w / 2 ^ (i - st.k))) i i (.bool false)) [] := by
  refine loop_ind (St := SB i) (fun st => Tb (Int.ofNat st.w) st.k i st.a) (fun _ => []) (fun st => i - st.k) (fun _ => .exit 0) (fun st => Tb (Int.ofNat (st.w / 2 ^ (i - st.k))) i i (.bool false)) (fun _ => []) (fun st => ?_) st
  by_cases h : st.k < i
  · have hw : st.w / 2 < 18446744073709551616 := by have := st.hw; omega
    refine .inl ⟨⟨st.w / 2, st.k + 1, .bool true, hw, h⟩, by simp; omega, rfl, ?_, rfl, SoundL.plain (runX_sound mixed none_sound (bit_go (Int.ofNat st.w) st.k i st.a) ⟨by simp [Qst.ok]; omega, trivial⟩) ?_⟩
    · simp only
      rw [Nat.div_div_eq_div_mul, show i - st.k = (i - (st.k + 1)) + 1 from by omega, Nat.pow_succ, Nat.mul_comm 2]
    · rw [half st.w st.hw, i64_wrap (x := Int.ofNat (st.k + 1)) (by simp; omega) (by simp; omega)]
      unfold Tb
      repeat (first | exact rfl | refine ⟨_, _, rfl, ?_, ?_⟩ | exact .inl ⟨rfl, rfl⟩ | exact .inr ⟨rfl, rfl⟩)
  · have hk : st.k = i := by have := st.hk; omega
    refine .inr ⟨by simp, SoundL.plain (runX_sound mixed none_sound (bit_end (Int.ofNat st.w) st.k i st.a) ⟨by simp [Qst.ok]; omega, trivial⟩) ?_⟩
    unfold Tb
    rw [hk, Nat.sub_self, Nat.pow_zero, Nat.div_one]
    repeat (first | exact rfl | refine ⟨_, _, rfl, ?_, ?_⟩ | exact .inl ⟨rfl, rfl⟩ | exact .inr ⟨rfl, rfl⟩)
end Go.Proofs.YtipadnlhcnmgaaaDoor.boundsLook
