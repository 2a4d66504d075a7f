/- Numbers as they count, and the bound of hazard pointers. Conditions: those that each theorem names, and no others. -/
import Derived.Test.YtipadnlhcnmgaaaDoorLook2
namespace Go.Proofs.YtipadnlhcnmgaaaDoor.boundsLook
open Go Go.Mini
def cl (x : Int) : Nat := if x < 0 then 0 else if 1048576 < x then 1048576 else x.toNat
theorem cl_le (x : Int) : cl x ≤ 1048576 := by unfold cl; split <;> (try split) <;> omega
theorem cnt_run (x : Int) : runX Tryd.prog none_ 50 43 (.call 43 [.int .i64 x] (startS Tryd.prog [])) [.val 43 1 2 (.int .i64 (Int.ofNat (cl x)))] = some ({ e := AExit.ret, ts := [AV.int IntKind.i64 (Int.ofNat (cl x))], s := { h := { bs := [], len := 0, esc := none, wr := [] }, nx := 2 } }, [], [Qst.val (some (AV.int IntKind.i64 (if 1048576 < if 0 > x then 0 else x then Int.ofNat 1048576 else if 0 > x then Int.ofNat 0 else x))) (AV.int IntKind.i64 (Int.ofNat (cl x)))]) := by kernel_rfl
theorem rcnt_neg (x : Int) : runX Tryd.prog none_ 50 44 (.call 44 [.int .i64 x] (startS Tryd.prog [])) [.val 44 1 1 (.bool true)] = some ({ e := AExit.ret, ts := [AV.int IntKind.i64 (Int.ofNat 0)], s := { h := { bs := [], len := 0, esc := none, wr := [] }, nx := 2 } }, [], [Qst.val (some (AV.bool (decide (x < 0)))) (AV.bool true)]) := by kernel_rfl
theorem rcnt_big (x : Int) : runX Tryd.prog none_ 50 44 (.call 44 [.int .i64 x] (startS Tryd.prog [])) [.val 44 1 1 (.bool false), .val 44 3 1 (.bool true)] = some ({ e := AExit.ret, ts := [AV.int IntKind.i64 (Int.ofNat 1048576)], s := { h := { bs := [], len := 0, esc := none, wr := [] }, nx := 2 } }, [], [Qst.val (some (AV.bool (decide (x < 0)))) (AV.bool false), Qst.val (some (AV.bool (decide (x > 1048576)))) (AV.bool true)]) := by kernel_rfl
theorem rcnt_mid (x : Int) : runX Tryd.prog none_ 50 44 (.call 44 [.int .i64 x] (startS Tryd.prog [])) [.val 44 1 1 (.bool false), .val 44 3 1 (.bool false)] = some ({ e := AExit.ret, ts := [AV.int IntKind.i64 x], s := { h := { bs := [], len := 0, esc := none, wr := [] }, nx := 2 } }, [], [Qst.val (some (AV.bool (decide (x < 0)))) (AV.bool false), Qst.val (some (AV.bool (decide (x > 1048576)))) (AV.bool false)]) := by kernel_rfl
def tmF (t h : Nat) : Nat := t * (h + 3 * t)
theorem term_run (x y : Int) (t h : Nat) : runX Tryd.prog none_ 50 42 (.call 42 [.int .i64 x, .int .i64 y] (startS Tryd.prog [])) [.pure 42 1 1 [] (.int .i64 (Int.ofNat t)), .pure 42 2 2 [] (.int .i64 (Int.ofNat h)), .val 42 2 4 (.int .i64 (Int.ofNat (3 * t))), .val 42 2 5 (.int .i64 (Int.ofNat (h + 3 * t))), .val 42 2 6 (.int .i64 (Int.ofNat (tmF t h)))] = some ({ e := AExit.ret, ts := [AV.int IntKind.i64 (Int.ofNat (tmF t h))], s := { h := { bs := [], len := 0, esc := none, wr := [] }, nx := 2 } }, [], [Qst.pure [] 43 [AV.int IntKind.i64 x] (AV.int IntKind.i64 (Int.ofNat t)), Qst.pure [] 43 [AV.int IntKind.i64 y] (AV.int IntKind.i64 (Int.ofNat h)), Qst.val (some (AV.int IntKind.i64 (IntKind.i64.wrap (Int.ofNat (t * 3))))) (AV.int IntKind.i64 (Int.ofNat (3 * t))), Qst.val (some (AV.int IntKind.i64 (IntKind.i64.wrap (Int.ofNat (h + 3 * t))))) (AV.int IntKind.i64 (Int.ofNat (h + 3 * t))), Qst.val (some (AV.int IntKind.i64 (IntKind.i64.wrap (Int.ofNat (t * (h + 3 * t)))))) (AV.int IntKind.i64 (Int.ofNat (tmF t h)))]) := by kernel_rfl
theorem hp_run (x y : Int) (t h : Nat) : runX Tryd.prog none_ 50 10 (.call 10 [.int .i64 x, .int .i64 y] (startS Tryd.prog [])) [.pure 10 1 2 [] (.int .i64 (Int.ofNat (tmF t h))), .pure 10 1 4 [] (.int .i64 (Int.ofNat t)), .val 10 1 5 (.int .i64 (Int.ofNat (3 * t))), .val 10 1 6 (.int .i64 (Int.ofNat (tmF t h + 3 * t)))] = some ({ e := AExit.ret, ts := [AV.int IntKind.i64 (Int.ofNat (tmF t h + 3 * t))], s := { h := { bs := [], len := 0, esc := none, wr := [] }, nx := 2 } }, [], [Qst.pure [] 42 [AV.int IntKind.i64 x, AV.int IntKind.i64 y] (AV.int IntKind.i64 (Int.ofNat (tmF t h))), Qst.pure [] 43 [AV.int IntKind.i64 x] (AV.int IntKind.i64 (Int.ofNat t)), Qst.val (some (AV.int IntKind.i64 (IntKind.i64.wrap (Int.ofNat (t * 3))))) (AV.int IntKind.i64 (Int.ofNat (3 * t))), Qst.val (some (AV.int IntKind.i64 (IntKind.i64.wrap (Int.ofNat (tmF t h + 3 * t))))) (AV.int IntKind.i64 (Int.ofNat (tmF t h + 3 * t)))]) := by kernel_rfl
theorem rhp_run (x y : Int) (t h : Nat) : runX Tryd.prog none_ 50 11 (.call 11 [.int .i64 x, .int .i64 y] (startS Tryd.prog [])) [.pure 11 1 1 [] (.int .i64 (Int.ofNat t)), .pure 11 2 2 [] (.int .i64 (Int.ofNat h)), .val 11 2 4 (.int .i64 (Int.ofNat (3 * t))), .val 11 2 5 (.int .i64 (Int.ofNat (h + 3 * t))), .val 11 2 6 (.int .i64 (Int.ofNat (tmF t h))), .val 11 2 8 (.int .i64 (Int.ofNat (3 * t))), .val 11 2 9 (.int .i64 (Int.ofNat (tmF t h + 3 * t)))] = some ({ e := AExit.ret, ts := [AV.int IntKind.i64 (Int.ofNat (tmF t h + 3 * t))], s := { h := { bs := [], len := 0, esc := none, wr := [] }, nx := 2 } }, [], [Qst.pure [] 44 [AV.int IntKind.i64 x] (AV.int IntKind.i64 (Int.ofNat t)), Qst.pure [] 44 [AV.int IntKind.i64 y] (AV.int IntKind.i64 (Int.ofNat h)), Qst.val (some (AV.int IntKind.i64 (IntKind.i64.wrap (Int.ofNat (3 * t))))) (AV.int IntKind.i64 (Int.ofNat (3 * t))), Qst.val (some (AV.int IntKind.i64 (IntKind.i64.wrap (Int.ofNat (h + 3 * t))))) (AV.int IntKind.i64 (Int.ofNat (h + 3 * t))), Qst.val (some (AV.int IntKind.i64 (IntKind.i64.wrap (Int.ofNat (t * (h + 3 * t)))))) (AV.int IntKind.i64 (Int.ofNat (tmF t h))), Qst.val (some (AV.int IntKind.i64 (IntKind.i64.wrap (Int.ofNat (3 * t))))) (AV.int IntKind.i64 (Int.ofNat (3 * t))), Qst.val (some (AV.int IntKind.i64 (IntKind.i64.wrap (Int.ofNat (tmF t h + 3 * t))))) (AV.int IntKind.i64 (Int.ofNat (tmF t h + 3 * t)))]) := by kernel_rfl
theorem cnt_call (x : Int) (s : AS) : Sound Tryd.prog (.call 43 [.int .i64 x] s) ⟨.ret, [.int .i64 (Int.ofNat (cl x))], s⟩ := by
  refine Sound.pure (G := []) (runX_sound mixed none_sound (cnt_run x) ⟨?_, trivial⟩) rfl rfl rfl rfl
  show some _ = some _
  congr 2
  unfold cl
  by_cases h1 : x < 0
  · simp [h1]
  · by_cases h2 : 1048576 < x
    · simp [h1, h2]
    · simp [h1, h2]
      omega
theorem rcnt_call (x : Int) (s : AS) : Sound Tryd.prog (.call 44 [.int .i64 x] s) ⟨.ret, [.int .i64 (Int.ofNat (cl x))], s⟩ := by
  by_cases h1 : x < 0
  · have := Sound.pure (G := []) (s := s) (runX_sound mixed none_sound (rcnt_neg x) ⟨by simp [Qst.ok]; omega, trivial⟩) rfl rfl rfl rfl
    unfold cl
    rw [if_pos h1]
    exact this
  · by_cases h2 : 1048576 < x
    · have := Sound.pure (G := []) (s := s) (runX_sound mixed none_sound (rcnt_big x) ⟨by simp [Qst.ok]; omega, by simp [Qst.ok]; omega, trivial⟩) rfl rfl rfl rfl
      unfold cl
      rw [if_neg h1, if_pos h2]
      exact this
    · have := Sound.pure (G := []) (s := s) (runX_sound mixed none_sound (rcnt_mid x) ⟨by simp [Qst.ok]; omega, by simp [Qst.ok]; omega, trivial⟩) rfl rfl rfl rfl
      unfold cl
      rw [if_neg h1, if_neg h2]
      rwa [show Int.ofNat x.toNat = x from by simp; omega]
theorem i64_nat {n : Nat} (h : n < 9223372036854775808) : IntKind.i64.wrap (Int.ofNat n) = Int.ofNat n := i64_wrap (by simp only [Int.ofNat_eq_natCast]; omega) (by simp only [Int.ofNat_eq_natCast]; omega)
theorem tm_le {t h : Nat} (ht : t ≤ 1048576) (hh : h ≤ 1048576) : tmF t h ≤ 4398046511104 := by
  unfold tmF
  calc t * (h + 3 * t) ≤ 1048576 * 4194304 := Nat.mul_le_mul ht (by omega)
    _ = 4398046511104 := by decide
theorem wrapq {n : Nat} (x : Int) (hx : x = Int.ofNat n) (h : n < 9223372036854775808) : (Qst.val (some (AV.int .i64 (IntKind.i64.wrap x))) (AV.int .i64 (Int.ofNat n))).ok Tryd.prog := by
  simp only [Qst.ok]
  rw [hx, i64_nat h]
theorem term_call (x y : Int) (s : AS) : Sound Tryd.prog (.call 42 [.int .i64 x, .int .i64 y] s) ⟨.ret, [.int .i64 (Int.ofNat (tmF (cl x) (cl y)))], s⟩ := by
  have h1 := cl_le x
  have h2 := cl_le y
  have h3 := tm_le h1 h2
  refine Sound.pure (G := []) (runX_sound mixed none_sound (term_run x y (cl x) (cl y)) ⟨fun s _ => cnt_call x s, fun s _ => cnt_call y s, wrapq _ ?_ (by omega), wrapq _ ?_ (by omega), wrapq _ ?_ (by omega), trivial⟩) rfl rfl rfl rfl
  · first | rfl | (simp only [Int.ofNat_eq_natCast]; omega)
  · first | rfl | (simp only [Int.ofNat_eq_natCast]; omega)
  · unfold tmF
    simp only [Int.ofNat_eq_natCast, Int.natCast_mul]
theorem hp_call (x y : Int) (s : AS) : Sound Tryd.prog (.call 10 [.int .i64 x, .int .i64 y] s) ⟨.ret, [.int .i64 (Int.ofNat (tmF (cl x) (cl y) + 3 * cl x))], s⟩ := by
  have h1 := cl_le x
  have h2 := cl_le y
  have h3 := tm_le h1 h2
  refine Sound.pure (G := []) (runX_sound mixed none_sound (hp_run x y (cl x) (cl y)) ⟨fun s _ => term_call x y s, fun s _ => cnt_call x s, wrapq _ ?_ (by omega), wrapq _ ?_ (by omega), trivial⟩) rfl rfl rfl rfl
  · first | rfl | (simp only [Int.ofNat_eq_natCast]; omega)
  · first | rfl | (simp only [Int.ofNat_eq_natCast]; omega)
theorem rhp_call (x y : Int) (s : AS) : Sound Tryd.prog (.call 11 [.int .i64 x, .int .i64 y] s) ⟨.ret, [.int .i64 (Int.ofNat (tmF (cl x) (cl y) + 3 * cl x))], s⟩ := by
  have h1 := cl_le x
  have h2 := cl_le y
  have h3 := tm_le h1 h2
  refine Sound.pure (G := []) (runX_sound mixed none_sound (rhp_run x y (cl x) (cl y)) ⟨fun s _ => rcnt_call x s, fun s _ => rcnt_call y s, wrapq _ ?_ (by omega), wrapq _ ?_ (by omega), wrapq _ ?_ (by omega), wrapq _ ?_ (by omega), wrapq _ ?_ (by omega), trivial⟩) rfl rfl rfl rfl
  all_goals (try unfold tmF); simp only [Int.ofNat_eq_natCast, Int.natCast_mul, Int.natCast_add]; try omega
end Go.Proofs.YtipadnlhcnmgaaaDoor.boundsLook
