/- A field of a word, and a header taken apart, of the program and of the document. Conditions: those that each theorem names, and no others. -/
import Derived.Test.YtipadnlhcnmgaaaDoorLook1
import Derived.Test.YtipadnlhcnmgaaaDoorMini2
namespace Go.Proofs.YtipadnlhcnmgaaaDoor.boundsLook
open Go Go.Mini

def bt (w i : Nat) : Nat := w / 2 ^ i % 2
noncomputable def E0 : AS := startS Tryd.prog []
theorem bit_run (w i : Nat) : runX Tryd.prog none_ 50 99 (.call 99 [.int .u64 (Int.ofNat w), .int .i64 (Int.ofNat i)] (startS Tryd.prog [])) [.loop 99 fun _ s => ⟨.exit 0, Tb (Int.ofNat (w / 2 ^ i)) i i (.bool false), s⟩] = some ({ e := AExit.ret, ts := [AV.int IntKind.u64 (Int.ofNat (w / 2 ^ i % 2))], s := { h := { bs := [], len := 0, esc := none, wr := [] }, nx := 2 } }, [], [Qst.snd (Task.code (Code.loop (loopAt Tryd.prog 99 0)) [AV.int IntKind.u64 (Int.ofNat w), AV.int IntKind.i64 (Int.ofNat i), AV.tuple [], AV.tuple [], AV.int IntKind.u64 (Int.ofNat 0), AV.int IntKind.i64 (Int.ofNat 0), AV.tuple [], AV.tuple [], AV.tuple [], AV.tuple [], AV.tuple [], AV.tuple [], AV.tuple [], AV.tuple [], AV.tuple []] { h := { bs := [], len := 0, esc := none, wr := [] }, nx := 2 }) { e := AExit.exit 0, ts := [AV.int IntKind.u64 (Int.ofNat (w / 2 ^ i)), AV.int IntKind.i64 (Int.ofNat i), AV.tuple [], AV.tuple [], AV.int IntKind.u64 (Int.ofNat 0), AV.int IntKind.i64 (Int.ofNat i), AV.tuple [AV.nilMap], AV.tuple [AV.nilMap], AV.bool false, AV.tuple [AV.nilMap], AV.tuple [AV.nilMap], AV.tuple [AV.nilMap], AV.tuple [AV.nilMap], AV.tuple [], AV.tuple []], s := { h := { bs := [], len := 0, esc := none, wr := [] }, nx := 2 } }]) := by kernel_rfl
theorem bit_call (w i : Nat) (hw : w < 18446744073709551616) (hi : i < 1000) (s : AS) : Sound Tryd.prog (.call 99 [.int .u64 (Int.ofNat w), .int .i64 (Int.ofNat i)] s) ⟨.ret, [.int .u64 (Int.ofNat (bt w i))], s⟩ := by
  refine Sound.pure (G := []) (runX_sound mixed none_sound (bit_run w i) ⟨?_, trivial⟩) rfl rfl rfl rfl
  refine Sound.enter (ts' := Tb (Int.ofNat w) 0 i undefA) (bit_loop i hi ⟨w, 0, undefA, hw, Nat.zero_le _⟩ none none []) ?_
  unfold Tb
  repeat (first | exact rfl | refine ⟨_, _, rfl, ?_, ?_⟩ | exact .inr ⟨rfl, rfl⟩ | exact .inl ⟨rfl, rfl⟩)

/-! ### ref01.Field -/
def Tf (w fr to j out : Nat) (a : AV) : List AV := [.int .u64 (Int.ofNat w), .int .i64 (Int.ofNat fr), .int .i64 (Int.ofNat to), undefA, undefA, undefA, .int .u64 0, .int .u64 (Int.ofNat out), .int .i64 (Int.ofNat j - 1), junkA, junkA, junkA, a, junkA, junkA, junkA, junkA, junkA, junkA, junkA, junkA, undefA]
theorem field_go (w fr to j out b : Nat) (a : AV) : runX Tryd.prog none_ 50 72 (.code (loopAt Tryd.prog 72 0) (Tf w fr to j out a) ⟨⟨[], 0, none, []⟩, 2⟩) [.val 72 3 2 (.bool true), .val 72 5 1 (.int .u64 (Int.ofNat (2 * out))), .call 72 5 4 (.int .u64 (Int.ofNat b)) id, .val 72 5 5 (.int .u64 (Int.ofNat (2 * out + b)))] = some ({ e := AExit.normal, ts := [AV.int IntKind.u64 (Int.ofNat w), AV.int IntKind.i64 (Int.ofNat fr), AV.int IntKind.i64 (Int.ofNat to), AV.tuple [], AV.tuple [], AV.tuple [], AV.int IntKind.u64 (Int.ofNat 0), AV.int IntKind.u64 (Int.ofNat (2 * out + b)), AV.int IntKind.i64 (IntKind.i64.wrap (Int.ofNat j - Int.ofNat 1 - Int.ofNat 1)), AV.tuple [AV.nilMap], AV.int IntKind.i64 (Int.ofNat j - Int.ofNat 1), AV.int IntKind.i64 (Int.ofNat fr), AV.bool true, AV.int IntKind.i64 (Int.ofNat j - Int.ofNat 1), AV.int IntKind.i64 (IntKind.i64.wrap (Int.ofNat j - Int.ofNat 1 - Int.ofNat 1)), AV.int IntKind.u64 (Int.ofNat out), AV.int IntKind.u64 (Int.ofNat (2 * out)), AV.int IntKind.u64 (Int.ofNat w), AV.int IntKind.i64 (Int.ofNat j - Int.ofNat 1), AV.int IntKind.u64 (Int.ofNat b), AV.int IntKind.u64 (Int.ofNat (2 * out + b)), AV.tuple []], s := { h := { bs := [], len := 0, esc := none, wr := [] }, nx := 2 } }, [], [Qst.val (some (AV.bool (decide (Int.ofNat j - 1 ≥ Int.ofNat fr)))) (AV.bool true), Qst.val (some (AV.int IntKind.u64 (Int.ofNat (2 * out % ((2 : Int) ^ IntKind.u64.bits).natAbs)))) (AV.int IntKind.u64 (Int.ofNat (2 * out))), Qst.snd (Task.call 99 [AV.int IntKind.u64 (Int.ofNat w), AV.int IntKind.i64 (Int.ofNat j - Int.ofNat 1)] { h := { bs := [], len := 0, esc := none, wr := [] }, nx := 2 }) { e := AExit.ret, ts := [AV.int IntKind.u64 (Int.ofNat b)], s := { h := { bs := [], len := 0, esc := none, wr := [] }, nx := 2 } }, Qst.val (some (AV.int IntKind.u64 (Int.ofNat ((2 * out + b) % ((2 : Int) ^ IntKind.u64.bits).natAbs)))) (AV.int IntKind.u64 (Int.ofNat (2 * out + b)))]) := by kernel_rfl
theorem field_end (w fr to j out : Nat) (a : AV) : runX Tryd.prog none_ 50 72 (.code (loopAt Tryd.prog 72 0) (Tf w fr to j out a) ⟨⟨[], 0, none, []⟩, 2⟩) [.val 72 3 2 (.bool false)] = some ({ e := AExit.exit 0, ts := [AV.int IntKind.u64 (Int.ofNat w), AV.int IntKind.i64 (Int.ofNat fr), AV.int IntKind.i64 (Int.ofNat to), AV.tuple [], AV.tuple [], AV.tuple [], AV.int IntKind.u64 (Int.ofNat 0), AV.int IntKind.u64 (Int.ofNat out), AV.int IntKind.i64 (Int.ofNat j - Int.ofNat 1), AV.tuple [AV.nilMap], AV.int IntKind.i64 (Int.ofNat j - Int.ofNat 1), AV.int IntKind.i64 (Int.ofNat fr), AV.bool false, AV.tuple [AV.nilMap], AV.tuple [AV.nilMap], AV.tuple [AV.nilMap], AV.tuple [AV.nilMap], AV.tuple [AV.nilMap], AV.tuple [AV.nilMap], AV.tuple [AV.nilMap], AV.tuple [AV.nilMap], AV.tuple []], s := { h := { bs := [], len := 0, esc := none, wr := [] }, nx := 2 } }, [], [Qst.val (some (AV.bool (decide (Int.ofNat j - 1 ≥ Int.ofNat fr)))) (AV.bool false)]) := by kernel_rfl
theorem field_run (w fr to out : Nat) : runX Tryd.prog none_ 50 72 (.call 72 [.int .u64 (Int.ofNat w), .int .i64 (Int.ofNat fr), .int .i64 (Int.ofNat to)] (startS Tryd.prog [])) [.loop 72 fun _ s => ⟨.exit 0, Tf w fr to fr out (.bool false), s⟩] = some ({ e := AExit.ret, ts := [AV.int IntKind.u64 (Int.ofNat out)], s := { h := { bs := [], len := 0, esc := none, wr := [] }, nx := 2 } }, [], [Qst.snd (Task.code (Code.loop (loopAt Tryd.prog 72 0)) [AV.int IntKind.u64 (Int.ofNat w), AV.int IntKind.i64 (Int.ofNat fr), AV.int IntKind.i64 (Int.ofNat to), AV.tuple [], AV.tuple [], AV.tuple [], AV.int IntKind.u64 (Int.ofNat 0), AV.int IntKind.u64 (Int.ofNat 0), AV.int IntKind.i64 (Int.ofNat to), AV.int IntKind.i64 (Int.ofNat to), AV.tuple [], AV.tuple [], AV.tuple [], AV.tuple [], AV.tuple [], AV.tuple [], AV.tuple [], AV.tuple [], AV.tuple [], AV.tuple [], AV.tuple [], AV.tuple []] { h := { bs := [], len := 0, esc := none, wr := [] }, nx := 2 }) { e := AExit.exit 0, ts := [AV.int IntKind.u64 (Int.ofNat w), AV.int IntKind.i64 (Int.ofNat fr), AV.int IntKind.i64 (Int.ofNat to), AV.tuple [], AV.tuple [], AV.tuple [], AV.int IntKind.u64 (Int.ofNat 0), AV.int IntKind.u64 (Int.ofNat out), AV.int IntKind.i64 (Int.ofNat fr - Int.ofNat 1), AV.tuple [AV.nilMap], AV.tuple [AV.nilMap], AV.tuple [AV.nilMap], AV.bool false, AV.tuple [AV.nilMap], AV.tuple [AV.nilMap], AV.tuple [AV.nilMap], AV.tuple [AV.nilMap], AV.tuple [AV.nilMap], AV.tuple [AV.nilMap], AV.tuple [AV.nilMap], AV.tuple [AV.nilMap], AV.tuple []], s := { h := { bs := [], len := 0, esc := none, wr := [] }, nx := 2 } }]) := by kernel_rfl

def fld (w fr n : Nat) : Nat := w / 2 ^ fr % 2 ^ n
structure SF (w fr to : Nat) where
  j : Nat
  out : Nat
  a : AV
  hf : fr ≤ j
  hj : j ≤ to + 1
  ho : out = fld w j (to + 1 - j)
theorem fld_step (w j n : Nat) : 2 * fld w (j + 1) n + bt w j = fld w j (n + 1) := by
  unfold fld bt
  rw [Nat.pow_succ 2 j, ← Nat.div_div_eq_div_mul, Nat.pow_succ 2 n, Nat.mul_comm (2 ^ n) 2, Nat.mod_mul]
  omega
theorem pow_le64 {n : Nat} (h : n ≤ 63) : 2 ^ n ≤ 9223372036854775808 := Nat.pow_le_pow_right (n := 2) (by omega) h
theorem ofNat_pred {j : Nat} (h : 0 < j) : Int.ofNat j - 1 = Int.ofNat (j - 1) := by
  simp only [Int.ofNat_eq_natCast]; omega
theorem field_loop (w fr to : Nat) (hw : w < 18446744073709551616) (hto : to ≤ 62) (st : SF w fr to) :
    SoundL Tryd.prog [] (.loop (loopAt Tryd.prog 72 0)) (Tf w fr to st.j st.out st.a) [] 0 2 (.exit 0) (Tf w fr to fr (fld w fr (to + 1 - fr)) (.bool false)) [] := by
  refine loop_ind (St := SF w fr to) (fun st => Tf w fr to st.j st.out st.a) (fun _ => []) (fun st => st.j - fr) (fun _ => .exit 0) (fun _ => Tf w fr to fr (fld w fr (to + 1 - fr)) (.bool false)) (fun _ => []) (fun st => ?_) st
  obtain ⟨j, out, a, hf, hj, ho⟩ := st
  dsimp only
  by_cases h : fr < j
  · obtain ⟨i, rfl⟩ : ∃ i, j = i + 1 := ⟨j - 1, by omega⟩
    have hb : out < 2 ^ (to + 1 - (i + 1)) := by rw [ho]; exact Nat.mod_lt _ (Nat.pow_pos (by omega))
    have hb2 := pow_le64 (n := to + 1 - (i + 1)) (by omega)
    have hbt : bt w i < 2 := Nat.mod_lt _ (by omega)
    have hnat : ((2 : Int) ^ IntKind.u64.bits).natAbs = 18446744073709551616 := by decide
    have hi1 : Int.ofNat (i + 1) - 1 = Int.ofNat i := by simp only [Int.ofNat_eq_natCast]; omega
    refine .inl ⟨⟨i, 2 * out + bt w i, .bool true, by omega, by omega, ?_⟩, by simp only; omega, rfl, rfl, rfl, SoundL.plain (runX_sound mixed none_sound (field_go w fr to (i + 1) out (bt w i) a) ⟨?_, ?_, ?_, ?_, trivial⟩) ?_⟩
    · rw [ho, show to + 1 - i = (to + 1 - (i + 1)) + 1 from by omega]
      exact fld_step w i _
    · simp only [Qst.ok, Option.some.injEq, AV.bool.injEq, decide_eq_true_eq, hi1]
      simp only [Int.ofNat_eq_natCast]; omega
    · simp only [Qst.ok, hnat]
      rw [Nat.mod_eq_of_lt (by omega)]
    · have := bit_call w i hw (by omega) ⟨⟨[], 0, none, []⟩, 2⟩
      rw [← hi1] at this
      exact this
    · simp only [Qst.ok, hnat]
      rw [Nat.mod_eq_of_lt (by omega)]
    · unfold Tf
      rw [show Int.ofNat (i + 1) - Int.ofNat 1 - Int.ofNat 1 = Int.ofNat i - 1 from by simp only [Int.ofNat_eq_natCast]; omega, i64_wrap (x := Int.ofNat i - 1) (by simp only [Int.ofNat_eq_natCast]; omega) (by simp only [Int.ofNat_eq_natCast]; omega)]
      repeat (first | exact rfl | refine ⟨_, _, rfl, ?_, ?_⟩ | exact .inr ⟨rfl, rfl⟩ | exact .inl ⟨rfl, rfl⟩)
  · have hk : j = fr := by omega
    subst hk
    refine .inr ⟨by simp, SoundL.plain (runX_sound mixed none_sound (field_end w j to j out a) ⟨?_, trivial⟩) ?_⟩
    · simp only [Qst.ok, Option.some.injEq, AV.bool.injEq, decide_eq_false_iff_not]
      simp only [Int.ofNat_eq_natCast]; omega
    · unfold Tf
      rw [← ho]
      repeat (first | exact rfl | refine ⟨_, _, rfl, ?_, ?_⟩ | exact .inr ⟨rfl, rfl⟩ | exact .inl ⟨rfl, rfl⟩)
theorem field_call (w fr to : Nat) (hw : w < 18446744073709551616) (hto : to ≤ 62) (hf : fr ≤ to) (s : AS) : Sound Tryd.prog (.call 72 [.int .u64 (Int.ofNat w), .int .i64 (Int.ofNat fr), .int .i64 (Int.ofNat to)] s) ⟨.ret, [.int .u64 (Int.ofNat (fld w fr (to + 1 - fr)))], s⟩ := by
  refine Sound.pure (G := []) (runX_sound mixed none_sound (field_run w fr to (fld w fr (to + 1 - fr))) ⟨?_, trivial⟩) rfl rfl rfl rfl
  refine Sound.enter (ts' := Tf w fr to (to + 1) 0 undefA) (field_loop w fr to hw hto ⟨to + 1, 0, undefA, by omega, Nat.le_refl _, by unfold fld; rw [Nat.sub_self, Nat.pow_zero, Nat.mod_one]⟩ none none []) ?_
  unfold Tf
  rw [show Int.ofNat (to + 1) - 1 = Int.ofNat to from by simp only [Int.ofNat_eq_natCast]; omega]
  repeat (first | exact rfl | refine ⟨_, _, rfl, ?_, ?_⟩ | exact .inr ⟨rfl, rfl⟩ | exact .inl ⟨rfl, rfl⟩)

/-! ### AsHeader, of both -/
def hs (w : Nat) : Nat := if 4 < w % 8 then 4 else w % 8
def hg (w : Nat) : Nat := w / 8 % 4294967296
def headT (w : Nat) : AV := .tuple [.int .u8 (Int.ofNat (hs w)), .int .u32 (Int.ofNat (hg w))]
theorem rhead_run1 (w x y : Nat) : runX Tryd.prog none_ 50 48 (.call 48 [.int .u64 (Int.ofNat w)] (startS Tryd.prog [])) [.call 48 1 1 (.int .u64 (Int.ofNat x)) id, .val 48 1 2 (.int .u8 (Int.ofNat x)), .val 48 2 1 (.bool true), .call 48 4 2 (.int .u64 (Int.ofNat y)) id, .val 48 4 3 (.int .u32 (Int.ofNat y))] = some ({ e := AExit.ret, ts := [AV.tuple [AV.int IntKind.u8 (Int.ofNat 4), AV.int IntKind.u32 (Int.ofNat y)]], s := { h := { bs := [], len := 0, esc := none, wr := [] }, nx := 2 } }, [], [Qst.snd (Task.call 72 [AV.int IntKind.u64 (Int.ofNat w), AV.int IntKind.i64 (Int.ofNat 0), AV.int IntKind.i64 (Int.ofNat 2)] { h := { bs := [], len := 0, esc := none, wr := [] }, nx := 2 }) { e := AExit.ret, ts := [AV.int IntKind.u64 (Int.ofNat x)], s := { h := { bs := [], len := 0, esc := none, wr := [] }, nx := 2 } }, Qst.val (some (AV.int IntKind.u8 (Int.ofNat (x % ((2 : Int) ^ IntKind.u8.bits).natAbs)))) (AV.int IntKind.u8 (Int.ofNat x)), Qst.val (some (AV.bool (decide (Int.ofNat x > 4)))) (AV.bool true), Qst.snd (Task.call 72 [AV.int IntKind.u64 (Int.ofNat w), AV.int IntKind.i64 (Int.ofNat 3), AV.int IntKind.i64 (Int.ofNat 34)] { h := { bs := [], len := 0, esc := none, wr := [] }, nx := 2 }) { e := AExit.ret, ts := [AV.int IntKind.u64 (Int.ofNat y)], s := { h := { bs := [], len := 0, esc := none, wr := [] }, nx := 2 } }, Qst.val (some (AV.int IntKind.u32 (Int.ofNat (y % ((2 : Int) ^ IntKind.u32.bits).natAbs)))) (AV.int IntKind.u32 (Int.ofNat y))]) := by kernel_rfl
theorem rhead_run2 (w x y : Nat) : runX Tryd.prog none_ 50 48 (.call 48 [.int .u64 (Int.ofNat w)] (startS Tryd.prog [])) [.call 48 1 1 (.int .u64 (Int.ofNat x)) id, .val 48 1 2 (.int .u8 (Int.ofNat x)), .val 48 2 1 (.bool false), .call 48 4 2 (.int .u64 (Int.ofNat y)) id, .val 48 4 3 (.int .u32 (Int.ofNat y))] = some ({ e := AExit.ret, ts := [AV.tuple [AV.int IntKind.u8 (Int.ofNat x), AV.int IntKind.u32 (Int.ofNat y)]], s := { h := { bs := [], len := 0, esc := none, wr := [] }, nx := 2 } }, [], [Qst.snd (Task.call 72 [AV.int IntKind.u64 (Int.ofNat w), AV.int IntKind.i64 (Int.ofNat 0), AV.int IntKind.i64 (Int.ofNat 2)] { h := { bs := [], len := 0, esc := none, wr := [] }, nx := 2 }) { e := AExit.ret, ts := [AV.int IntKind.u64 (Int.ofNat x)], s := { h := { bs := [], len := 0, esc := none, wr := [] }, nx := 2 } }, Qst.val (some (AV.int IntKind.u8 (Int.ofNat (x % ((2 : Int) ^ IntKind.u8.bits).natAbs)))) (AV.int IntKind.u8 (Int.ofNat x)), Qst.val (some (AV.bool (decide (Int.ofNat x > 4)))) (AV.bool false), Qst.snd (Task.call 72 [AV.int IntKind.u64 (Int.ofNat w), AV.int IntKind.i64 (Int.ofNat 3), AV.int IntKind.i64 (Int.ofNat 34)] { h := { bs := [], len := 0, esc := none, wr := [] }, nx := 2 }) { e := AExit.ret, ts := [AV.int IntKind.u64 (Int.ofNat y)], s := { h := { bs := [], len := 0, esc := none, wr := [] }, nx := 2 } }, Qst.val (some (AV.int IntKind.u32 (Int.ofNat (y % ((2 : Int) ^ IntKind.u32.bits).natAbs)))) (AV.int IntKind.u32 (Int.ofNat y))]) := by kernel_rfl
def wf : List AV := [0,16,16,32,16,48,0,3,3,32,0,3,3,3,6,3,16,48,0,32,32,1].map (AV.int .u64)
def G : List (Nat × List AV) := [(0, wf)]
theorem phead_run (w x y z : Nat) : runX Tryd.prog none_ 50 99 (.call 47 [.int .u64 (Int.ofNat w)] (startS Tryd.prog G)) [.val 70 1 9 (.int .u8 (Int.ofNat x)), .val 47 1 2 (.int .u8 (Int.ofNat z)), .val 71 1 9 (.int .u32 (Int.ofNat y))] = some ({ e := AExit.ret, ts := [AV.tuple [AV.int IntKind.u8 (Int.ofNat z), AV.int IntKind.u32 (Int.ofNat y)]], s := { h := { bs := [(0, AObj.cells true [AV.int IntKind.u64 (Int.ofNat 0), AV.int IntKind.u64 (Int.ofNat 16), AV.int IntKind.u64 (Int.ofNat 16), AV.int IntKind.u64 (Int.ofNat 32), AV.int IntKind.u64 (Int.ofNat 16), AV.int IntKind.u64 (Int.ofNat 48), AV.int IntKind.u64 (Int.ofNat 0), AV.int IntKind.u64 (Int.ofNat 3), AV.int IntKind.u64 (Int.ofNat 3), AV.int IntKind.u64 (Int.ofNat 32), AV.int IntKind.u64 (Int.ofNat 0), AV.int IntKind.u64 (Int.ofNat 3), AV.int IntKind.u64 (Int.ofNat 3), AV.int IntKind.u64 (Int.ofNat 3), AV.int IntKind.u64 (Int.ofNat 6), AV.int IntKind.u64 (Int.ofNat 3), AV.int IntKind.u64 (Int.ofNat 16), AV.int IntKind.u64 (Int.ofNat 48), AV.int IntKind.u64 (Int.ofNat 0), AV.int IntKind.u64 (Int.ofNat 32), AV.int IntKind.u64 (Int.ofNat 32), AV.int IntKind.u64 (Int.ofNat 1)])], len := 1, esc := none, wr := [] }, nx := 2 } }, [], [Qst.val (some (AV.int IntKind.u8 (Int.ofNat ((match BinOp.and with | BinOp.and => BitVec.ofInt IntKind.u64.bits ((Int.ofNat w).fdiv (2 ^ min (Int.toNat 0) IntKind.u64.bits)) &&& BitVec.ofInt IntKind.u64.bits (IntKind.u64.wrap (IntKind.u64.wrap (1 * 2 ^ min (Int.toNat 3) IntKind.u64.bits) - 1)) | BinOp.or => BitVec.ofInt IntKind.u64.bits ((Int.ofNat w).fdiv (2 ^ min (Int.toNat 0) IntKind.u64.bits)) ||| BitVec.ofInt IntKind.u64.bits (IntKind.u64.wrap (IntKind.u64.wrap (1 * 2 ^ min (Int.toNat 3) IntKind.u64.bits) - 1)) | BinOp.xor => BitVec.ofInt IntKind.u64.bits ((Int.ofNat w).fdiv (2 ^ min (Int.toNat 0) IntKind.u64.bits)) ^^^ BitVec.ofInt IntKind.u64.bits (IntKind.u64.wrap (IntKind.u64.wrap (1 * 2 ^ min (Int.toNat 3) IntKind.u64.bits) - 1)) | _ => BitVec.ofInt IntKind.u64.bits ((Int.ofNat w).fdiv (2 ^ min (Int.toNat 0) IntKind.u64.bits)) &&& ~~~BitVec.ofInt IntKind.u64.bits (IntKind.u64.wrap (IntKind.u64.wrap (1 * 2 ^ min (Int.toNat 3) IntKind.u64.bits) - 1))).toNat % ((2 : Int) ^ IntKind.u64.bits).natAbs % ((2 : Int) ^ IntKind.u8.bits).natAbs)))) (AV.int IntKind.u8 (Int.ofNat x)), Qst.val (some (AV.int IntKind.u8 (if 4 < Int.ofNat x then Int.ofNat 4 else Int.ofNat x))) (AV.int IntKind.u8 (Int.ofNat z)), Qst.val (some (AV.int IntKind.u32 (Int.ofNat ((match BinOp.and with | BinOp.and => BitVec.ofInt IntKind.u64.bits ((Int.ofNat w).fdiv (2 ^ min (Int.toNat 3) IntKind.u64.bits)) &&& BitVec.ofInt IntKind.u64.bits (IntKind.u64.wrap (IntKind.u64.wrap (1 * 2 ^ min (Int.toNat 32) IntKind.u64.bits) - 1)) | BinOp.or => BitVec.ofInt IntKind.u64.bits ((Int.ofNat w).fdiv (2 ^ min (Int.toNat 3) IntKind.u64.bits)) ||| BitVec.ofInt IntKind.u64.bits (IntKind.u64.wrap (IntKind.u64.wrap (1 * 2 ^ min (Int.toNat 32) IntKind.u64.bits) - 1)) | BinOp.xor => BitVec.ofInt IntKind.u64.bits ((Int.ofNat w).fdiv (2 ^ min (Int.toNat 3) IntKind.u64.bits)) ^^^ BitVec.ofInt IntKind.u64.bits (IntKind.u64.wrap (IntKind.u64.wrap (1 * 2 ^ min (Int.toNat 32) IntKind.u64.bits) - 1)) | _ => BitVec.ofInt IntKind.u64.bits ((Int.ofNat w).fdiv (2 ^ min (Int.toNat 3) IntKind.u64.bits)) &&& ~~~BitVec.ofInt IntKind.u64.bits (IntKind.u64.wrap (IntKind.u64.wrap (1 * 2 ^ min (Int.toNat 32) IntKind.u64.bits) - 1))).toNat % ((2 : Int) ^ IntKind.u64.bits).natAbs % ((2 : Int) ^ IntKind.u32.bits).natAbs)))) (AV.int IntKind.u32 (Int.ofNat y))]) := by kernel_rfl

theorem bits64 : IntKind.u64.bits = 64 := rfl
theorem nat64 : ((2 : Int) ^ IntKind.u64.bits).natAbs = 18446744073709551616 := by decide
theorem nat32 : ((2 : Int) ^ IntKind.u32.bits).natAbs = 4294967296 := by decide
theorem nat8 : ((2 : Int) ^ IntKind.u8.bits).natAbs = 256 := by decide
theorem mask_and (x k : Nat) (hx : x < 18446744073709551616) (hk : k ≤ 64) : (BitVec.ofInt 64 (Int.ofNat x) &&& BitVec.ofInt 64 (Int.ofNat (2 ^ k - 1))).toNat = x % 2 ^ k := by
  have hp : 2 ^ k ≤ 2 ^ 64 := Nat.pow_le_pow_right (by omega) hk
  have h1 : (BitVec.ofInt 64 (Int.ofNat x)).toNat = x := by
    simp only [Int.ofNat_eq_natCast, BitVec.ofInt_natCast, BitVec.toNat_ofNat]
    exact Nat.mod_eq_of_lt hx
  have h2 : (BitVec.ofInt 64 (Int.ofNat (2 ^ k - 1))).toNat = 2 ^ k - 1 := by
    simp only [Int.ofNat_eq_natCast, BitVec.ofInt_natCast, BitVec.toNat_ofNat]
    refine Nat.mod_eq_of_lt ?_
    have : 0 < 2 ^ k := Nat.pow_pos (by omega)
    omega
  rw [BitVec.toNat_and, h1, h2]
  exact Nat.and_two_pow_sub_one_eq_mod x k
theorem shr_mask (w a k : Nat) (hw : w < 18446744073709551616) (ha : a ≤ 64) (hk : k < 64) :
    (BitVec.ofInt IntKind.u64.bits ((Int.ofNat w).fdiv (2 ^ min (Int.toNat (Int.ofNat a)) IntKind.u64.bits)) &&& BitVec.ofInt IntKind.u64.bits (IntKind.u64.wrap (IntKind.u64.wrap (1 * 2 ^ min (Int.toNat (Int.ofNat k)) IntKind.u64.bits) - 1))).toNat = w / 2 ^ a % 2 ^ k := by
  have e1 : (Int.ofNat w).fdiv (2 ^ min (Int.toNat (Int.ofNat a)) IntKind.u64.bits) = Int.ofNat (w / 2 ^ a) := by
    rw [bits64, show min (Int.toNat (Int.ofNat a)) 64 = a from by simp only [Int.ofNat_eq_natCast, Int.toNat_natCast]; omega, Int.fdiv_eq_ediv_of_nonneg _ (Int.pow_nonneg (by omega))]
    simp
  have hp : 2 ^ k < 2 ^ 64 := Nat.pow_lt_pow_right (by omega) hk
  have hp0 : 0 < 2 ^ k := Nat.pow_pos (by omega)
  have e2 : IntKind.u64.wrap (IntKind.u64.wrap (1 * 2 ^ min (Int.toNat (Int.ofNat k)) IntKind.u64.bits) - 1) = Int.ofNat (2 ^ k - 1) := by
    rw [bits64, show min (Int.toNat (Int.ofNat k)) 64 = k from by simp only [Int.ofNat_eq_natCast, Int.toNat_natCast]; omega]
    have h3 : (1 : Int) * 2 ^ k = Int.ofNat (2 ^ k) := by simp
    rw [h3, u64_wrap (x := Int.ofNat (2 ^ k)) (by simp only [Int.ofNat_eq_natCast]; omega) (by simp only [Int.ofNat_eq_natCast]; omega),
      u64_wrap (x := Int.ofNat (2 ^ k) - 1) (by simp only [Int.ofNat_eq_natCast]; omega) (by simp only [Int.ofNat_eq_natCast]; omega)]
    simp only [Int.ofNat_eq_natCast]
    omega
  have hd : w / 2 ^ a < 18446744073709551616 := Nat.lt_of_le_of_lt (Nat.div_le_self _ _) hw
  rw [e1, e2]
  exact mask_and _ k hd (by omega)

theorem phead (w : Nat) (hw : w < 18446744073709551616) (s : AS) (hG : hasG s G = true) : Sound Tryd.prog (.call 47 [.int .u64 (Int.ofNat w)] s) ⟨.ret, [headT w], s⟩ := by
  have h := phead_run w (w % 8) (hg w) (hs w)
  refine Sound.pure (G := G) (runX_sound mixed none_sound h ⟨?_, ?_, ?_, trivial⟩) (by kernel_rfl) rfl rfl hG
  · refine Eq.trans (congrArg (fun n : Nat => some (AV.int IntKind.u8 (Int.ofNat (n % ((2 : Int) ^ IntKind.u64.bits).natAbs % ((2 : Int) ^ IntKind.u8.bits).natAbs)))) (shr_mask w 0 3 hw (by omega) (by omega))) ?_
    rw [nat64, nat8]
    have : w / 2 ^ 0 % 2 ^ 3 = w % 8 := by simp
    rw [this]
    have : w % 8 % 18446744073709551616 % 256 = w % 8 := by omega
    rw [this]
  · show some _ = some _
    unfold hs
    by_cases h4 : 4 < w % 8
    · rw [if_pos h4, if_pos (show (4 : Int) < Int.ofNat (w % 8) by simp only [Int.ofNat_eq_natCast]; omega)]
    · rw [if_neg h4, if_neg (show ¬ (4 : Int) < Int.ofNat (w % 8) by simp only [Int.ofNat_eq_natCast]; omega)]
  · refine Eq.trans (congrArg (fun n : Nat => some (AV.int IntKind.u32 (Int.ofNat (n % ((2 : Int) ^ IntKind.u64.bits).natAbs % ((2 : Int) ^ IntKind.u32.bits).natAbs)))) (shr_mask w 3 32 hw (by omega) (by omega))) ?_
    rw [nat64, nat32]
    unfold hg
    have : w / 2 ^ 3 % 2 ^ 32 % 18446744073709551616 % 4294967296 = w / 8 % 4294967296 := by
      rw [show (2 : Nat) ^ 3 = 8 from rfl, show (2 : Nat) ^ 32 = 4294967296 from rfl]
      omega
    rw [this]
theorem rhead (w : Nat) (hw : w < 18446744073709551616) (s : AS) : Sound Tryd.prog (.call 48 [.int .u64 (Int.ofNat w)] s) ⟨.ret, [headT w], s⟩ := by
  have q1 := field_call w 0 2 hw (by omega) (by omega) (startS Tryd.prog [])
  have q2 := field_call w 3 34 hw (by omega) (by omega) (startS Tryd.prog [])
  rw [show fld w 0 (2 + 1 - 0) = w % 8 from by simp [fld]] at q1
  rw [show fld w 3 (34 + 1 - 3) = hg w from by simp [fld, hg]] at q2
  have hlt : hg w < 4294967296 := Nat.mod_lt _ (by omega)
  have a1 : (w % 8) % 256 = w % 8 := by omega
  have a2 : hg w % 4294967296 = hg w := Nat.mod_eq_of_lt hlt
  by_cases h4 : 4 < w % 8
  · have := Sound.pure (G := []) (s := s) (runX_sound mixed none_sound (rhead_run1 w (w % 8) (hg w)) ⟨q1, by simp only [Qst.ok, nat8, a1], by simp only [Qst.ok, Option.some.injEq, AV.bool.injEq, decide_eq_true_eq, Int.ofNat_eq_natCast]; omega, q2, by simp only [Qst.ok, nat32, a2], trivial⟩) rfl rfl rfl rfl
    unfold headT hs
    rw [if_pos h4]
    exact this
  · have := Sound.pure (G := []) (s := s) (runX_sound mixed none_sound (rhead_run2 w (w % 8) (hg w)) ⟨q1, by simp only [Qst.ok, nat8, a1], by simp only [Qst.ok, Option.some.injEq, AV.bool.injEq, decide_eq_false_iff_not, Int.ofNat_eq_natCast]; omega, q2, by simp only [Qst.ok, nat32, a2], trivial⟩) rfl rfl rfl rfl
    unfold headT hs
    rw [if_neg h4]
    exact this
end Go.Proofs.YtipadnlhcnmgaaaDoor.boundsLook
