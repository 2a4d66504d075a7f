/- What the document calls a change, of any two words. Conditions: those that each theorem names, and no others. -/
import Derived.Test.YtipadnlhcnmgaaaDoorShade9
namespace Go.Proofs.YtipadnlhcnmgaaaDoor.nodesShadow
open Go Go.Mini
theorem rmay1 (w s g m _ : Nat) : runX Tryd.prog none_ 50 107 (.call 107 [.int .u64 (Int.ofNat w), .int .u32 (Int.ofNat m)] (startS Tryd.prog [])) [.pure 107 1 1 [] (.int .u64 (Int.ofNat s)), .pure 107 2 1 [] (.int .u64 (Int.ofNat g)), .val 107 3 1 (.bool true)] = some ({ e := AExit.ret, ts := [AV.bool false], s := { h := { bs := [], len := 0, esc := none, wr := [] }, nx := 2 } }, [], [Qst.pure [] 72 [AV.int IntKind.u64 (Int.ofNat w), AV.int IntKind.i64 (Int.ofNat 0), AV.int IntKind.i64 (Int.ofNat 2)] (AV.int IntKind.u64 (Int.ofNat s)), Qst.pure [] 72 [AV.int IntKind.u64 (Int.ofNat w), AV.int IntKind.i64 (Int.ofNat 3), AV.int IntKind.i64 (Int.ofNat 34)] (AV.int IntKind.u64 (Int.ofNat g)), Qst.val (some (AV.bool (decide (Int.ofNat s > 4)))) (AV.bool true)]) := by kernel_rfl
theorem rmay2 (w s g m z : Nat) : runX Tryd.prog none_ 50 107 (.call 107 [.int .u64 (Int.ofNat w), .int .u32 (Int.ofNat m)] (startS Tryd.prog [])) [.pure 107 1 1 [] (.int .u64 (Int.ofNat s)), .pure 107 2 1 [] (.int .u64 (Int.ofNat g)), .val 107 3 1 (.bool false), .pure 107 3 4 [] (.int .u64 (Int.ofNat z)), .val 107 3 5 (.bool true)] = some ({ e := AExit.ret, ts := [AV.bool false], s := { h := { bs := [], len := 0, esc := none, wr := [] }, nx := 2 } }, [], [Qst.pure [] 72 [AV.int IntKind.u64 (Int.ofNat w), AV.int IntKind.i64 (Int.ofNat 0), AV.int IntKind.i64 (Int.ofNat 2)] (AV.int IntKind.u64 (Int.ofNat s)), Qst.pure [] 72 [AV.int IntKind.u64 (Int.ofNat w), AV.int IntKind.i64 (Int.ofNat 3), AV.int IntKind.i64 (Int.ofNat 34)] (AV.int IntKind.u64 (Int.ofNat g)), Qst.val (some (AV.bool (decide (Int.ofNat s > 4)))) (AV.bool false), Qst.pure [] 72 [AV.int IntKind.u64 (Int.ofNat w), AV.int IntKind.i64 (Int.ofNat 35), AV.int IntKind.i64 (Int.ofNat 63)] (AV.int IntKind.u64 (Int.ofNat z)), Qst.val (some (AV.bool (Int.ofNat z != Int.ofNat 0))) (AV.bool true)]) := by kernel_rfl
theorem rmay3 (w s g m z : Nat) : runX Tryd.prog none_ 50 107 (.call 107 [.int .u64 (Int.ofNat w), .int .u32 (Int.ofNat m)] (startS Tryd.prog [])) [.pure 107 1 1 [] (.int .u64 (Int.ofNat s)), .pure 107 2 1 [] (.int .u64 (Int.ofNat g)), .val 107 3 1 (.bool false), .pure 107 3 4 [] (.int .u64 (Int.ofNat z)), .val 107 3 5 (.bool false), .val 107 3 10 (.int .u64 (Int.ofNat m)), .val 107 3 11 (.bool true)] = some ({ e := AExit.ret, ts := [AV.bool false], s := { h := { bs := [], len := 0, esc := none, wr := [] }, nx := 2 } }, [], [Qst.pure [] 72 [AV.int IntKind.u64 (Int.ofNat w), AV.int IntKind.i64 (Int.ofNat 0), AV.int IntKind.i64 (Int.ofNat 2)] (AV.int IntKind.u64 (Int.ofNat s)), Qst.pure [] 72 [AV.int IntKind.u64 (Int.ofNat w), AV.int IntKind.i64 (Int.ofNat 3), AV.int IntKind.i64 (Int.ofNat 34)] (AV.int IntKind.u64 (Int.ofNat g)), Qst.val (some (AV.bool (decide (Int.ofNat s > 4)))) (AV.bool false), Qst.pure [] 72 [AV.int IntKind.u64 (Int.ofNat w), AV.int IntKind.i64 (Int.ofNat 35), AV.int IntKind.i64 (Int.ofNat 63)] (AV.int IntKind.u64 (Int.ofNat z)), Qst.val (some (AV.bool (Int.ofNat z != Int.ofNat 0))) (AV.bool false), Qst.val (some (AV.int IntKind.u64 (Int.ofNat (m % ((2 : Int) ^ IntKind.u64.bits).natAbs)))) (AV.int IntKind.u64 (Int.ofNat m)), Qst.val (some (AV.bool (decide (Int.ofNat g > Int.ofNat m)))) (AV.bool true)]) := by kernel_rfl
theorem rmay4 (w s g m z : Nat) : runX Tryd.prog none_ 50 107 (.call 107 [.int .u64 (Int.ofNat w), .int .u32 (Int.ofNat m)] (startS Tryd.prog [])) [.pure 107 1 1 [] (.int .u64 (Int.ofNat s)), .pure 107 2 1 [] (.int .u64 (Int.ofNat g)), .val 107 3 1 (.bool false), .pure 107 3 4 [] (.int .u64 (Int.ofNat z)), .val 107 3 5 (.bool false), .val 107 3 10 (.int .u64 (Int.ofNat m)), .val 107 3 11 (.bool false), .val 107 5 1 (.bool true)] = some ({ e := AExit.ret, ts := [AV.bool true], s := { h := { bs := [], len := 0, esc := none, wr := [] }, nx := 2 } }, [], [Qst.pure [] 72 [AV.int IntKind.u64 (Int.ofNat w), AV.int IntKind.i64 (Int.ofNat 0), AV.int IntKind.i64 (Int.ofNat 2)] (AV.int IntKind.u64 (Int.ofNat s)), Qst.pure [] 72 [AV.int IntKind.u64 (Int.ofNat w), AV.int IntKind.i64 (Int.ofNat 3), AV.int IntKind.i64 (Int.ofNat 34)] (AV.int IntKind.u64 (Int.ofNat g)), Qst.val (some (AV.bool (decide (Int.ofNat s > 4)))) (AV.bool false), Qst.pure [] 72 [AV.int IntKind.u64 (Int.ofNat w), AV.int IntKind.i64 (Int.ofNat 35), AV.int IntKind.i64 (Int.ofNat 63)] (AV.int IntKind.u64 (Int.ofNat z)), Qst.val (some (AV.bool (Int.ofNat z != Int.ofNat 0))) (AV.bool false), Qst.val (some (AV.int IntKind.u64 (Int.ofNat (m % ((2 : Int) ^ IntKind.u64.bits).natAbs)))) (AV.int IntKind.u64 (Int.ofNat m)), Qst.val (some (AV.bool (decide (Int.ofNat g > Int.ofNat m)))) (AV.bool false), Qst.val (some (AV.bool (Int.ofNat s != Int.ofNat 4))) (AV.bool true)]) := by kernel_rfl
theorem rmay5 (w s g m z : Nat) (b : Bool) : runX Tryd.prog none_ 50 107 (.call 107 [.int .u64 (Int.ofNat w), .int .u32 (Int.ofNat m)] (startS Tryd.prog [])) [.pure 107 1 1 [] (.int .u64 (Int.ofNat s)), .pure 107 2 1 [] (.int .u64 (Int.ofNat g)), .val 107 3 1 (.bool false), .pure 107 3 4 [] (.int .u64 (Int.ofNat z)), .val 107 3 5 (.bool false), .val 107 3 10 (.int .u64 (Int.ofNat m)), .val 107 3 11 (.bool false), .val 107 5 1 (.bool false), .val 107 5 5 (.int .u64 (Int.ofNat m)), .val 107 5 6 (.bool b)] = some ({ e := AExit.ret, ts := [AV.bool b], s := { h := { bs := [], len := 0, esc := none, wr := [] }, nx := 2 } }, [], [Qst.pure [] 72 [AV.int IntKind.u64 (Int.ofNat w), AV.int IntKind.i64 (Int.ofNat 0), AV.int IntKind.i64 (Int.ofNat 2)] (AV.int IntKind.u64 (Int.ofNat s)), Qst.pure [] 72 [AV.int IntKind.u64 (Int.ofNat w), AV.int IntKind.i64 (Int.ofNat 3), AV.int IntKind.i64 (Int.ofNat 34)] (AV.int IntKind.u64 (Int.ofNat g)), Qst.val (some (AV.bool (decide (Int.ofNat s > 4)))) (AV.bool false), Qst.pure [] 72 [AV.int IntKind.u64 (Int.ofNat w), AV.int IntKind.i64 (Int.ofNat 35), AV.int IntKind.i64 (Int.ofNat 63)] (AV.int IntKind.u64 (Int.ofNat z)), Qst.val (some (AV.bool (Int.ofNat z != Int.ofNat 0))) (AV.bool false), Qst.val (some (AV.int IntKind.u64 (Int.ofNat (m % ((2 : Int) ^ IntKind.u64.bits).natAbs)))) (AV.int IntKind.u64 (Int.ofNat m)), Qst.val (some (AV.bool (decide (Int.ofNat g > Int.ofNat m)))) (AV.bool false), Qst.val (some (AV.bool (Int.ofNat s != Int.ofNat 4))) (AV.bool false), Qst.val (some (AV.int IntKind.u64 (Int.ofNat (m % ((2 : Int) ^ IntKind.u64.bits).natAbs)))) (AV.int IntKind.u64 (Int.ofNat m)), Qst.val (some (AV.bool (Int.ofNat g == Int.ofNat m))) (AV.bool b)]) := by kernel_rfl
theorem dn0 (w m c : Nat) : runX Tryd.prog none_ 50 97 (.call 97 [.int .u64 (Int.ofNat w), .int .i64 (Int.ofNat c), .int .u32 (Int.ofNat m)] (startS Tryd.prog [])) [.pure 97 1 2 [] (.bool false)] = some ({ e := AExit.ret, ts := [AV.tuple [AV.int IntKind.u64 (Int.ofNat 0), AV.bool false]], s := { h := { bs := [], len := 0, esc := none, wr := [] }, nx := 2 } }, [], [Qst.pure [] 107 [AV.int IntKind.u64 (Int.ofNat w), AV.int IntKind.u32 (Int.ofNat m)] (AV.bool false)]) := by kernel_rfl
theorem dn1n (w s g m _ : Nat) : runX Tryd.prog none_ 50 97 (.call 97 [.int .u64 (Int.ofNat w), .int .i64 1, .int .u32 (Int.ofNat m)] (startS Tryd.prog [])) [.pure 97 1 2 [] (.bool true), .pure 97 3 1 [] (.tuple [.int .u8 (Int.ofNat s), .int .u32 (Int.ofNat g)]), .val 97 6 1 (.bool false)] = some ({ e := AExit.ret, ts := [AV.tuple [AV.int IntKind.u64 (Int.ofNat 0), AV.bool false]], s := { h := { bs := [], len := 0, esc := none, wr := [] }, nx := 2 } }, [], [Qst.pure [] 107 [AV.int IntKind.u64 (Int.ofNat w), AV.int IntKind.u32 (Int.ofNat m)] (AV.bool true), Qst.pure [] 48 [AV.int IntKind.u64 (Int.ofNat w)] (AV.tuple [AV.int IntKind.u8 (Int.ofNat s), AV.int IntKind.u32 (Int.ofNat g)]), Qst.val (some (AV.bool (Int.ofNat s == Int.ofNat 0))) (AV.bool false)]) := by kernel_rfl
theorem dn1y (w s g m v : Nat) : runX Tryd.prog none_ 50 97 (.call 97 [.int .u64 (Int.ofNat w), .int .i64 1, .int .u32 (Int.ofNat m)] (startS Tryd.prog [])) [.pure 97 1 2 [] (.bool true), .pure 97 3 1 [] (.tuple [.int .u8 (Int.ofNat s), .int .u32 (Int.ofNat g)]), .val 97 6 1 (.bool true), .pure 97 7 1 [] (.int .u64 (Int.ofNat v))] = some ({ e := AExit.ret, ts := [AV.tuple [AV.int IntKind.u64 (Int.ofNat v), AV.bool true]], s := { h := { bs := [], len := 0, esc := none, wr := [] }, nx := 2 } }, [], [Qst.pure [] 107 [AV.int IntKind.u64 (Int.ofNat w), AV.int IntKind.u32 (Int.ofNat m)] (AV.bool true), Qst.pure [] 48 [AV.int IntKind.u64 (Int.ofNat w)] (AV.tuple [AV.int IntKind.u8 (Int.ofNat s), AV.int IntKind.u32 (Int.ofNat g)]), Qst.val (some (AV.bool (Int.ofNat s == Int.ofNat 0))) (AV.bool true), Qst.pure [] 108 [AV.int IntKind.u8 (Int.ofNat 1), AV.int IntKind.u32 (Int.ofNat g)] (AV.int IntKind.u64 (Int.ofNat v))]) := by kernel_rfl
theorem dn2n (w s g m _ : Nat) : runX Tryd.prog none_ 50 97 (.call 97 [.int .u64 (Int.ofNat w), .int .i64 2, .int .u32 (Int.ofNat m)] (startS Tryd.prog [])) [.pure 97 1 2 [] (.bool true), .pure 97 3 1 [] (.tuple [.int .u8 (Int.ofNat s), .int .u32 (Int.ofNat g)]), .val 97 9 1 (.bool false)] = some ({ e := AExit.ret, ts := [AV.tuple [AV.int IntKind.u64 (Int.ofNat 0), AV.bool false]], s := { h := { bs := [], len := 0, esc := none, wr := [] }, nx := 2 } }, [], [Qst.pure [] 107 [AV.int IntKind.u64 (Int.ofNat w), AV.int IntKind.u32 (Int.ofNat m)] (AV.bool true), Qst.pure [] 48 [AV.int IntKind.u64 (Int.ofNat w)] (AV.tuple [AV.int IntKind.u8 (Int.ofNat s), AV.int IntKind.u32 (Int.ofNat g)]), Qst.val (some (AV.bool (Int.ofNat s == Int.ofNat 1))) (AV.bool false)]) := by kernel_rfl
theorem dn2y (w s g m v : Nat) : runX Tryd.prog none_ 50 97 (.call 97 [.int .u64 (Int.ofNat w), .int .i64 2, .int .u32 (Int.ofNat m)] (startS Tryd.prog [])) [.pure 97 1 2 [] (.bool true), .pure 97 3 1 [] (.tuple [.int .u8 (Int.ofNat s), .int .u32 (Int.ofNat g)]), .val 97 9 1 (.bool true), .pure 97 10 1 [] (.int .u64 (Int.ofNat v))] = some ({ e := AExit.ret, ts := [AV.tuple [AV.int IntKind.u64 (Int.ofNat v), AV.bool true]], s := { h := { bs := [], len := 0, esc := none, wr := [] }, nx := 2 } }, [], [Qst.pure [] 107 [AV.int IntKind.u64 (Int.ofNat w), AV.int IntKind.u32 (Int.ofNat m)] (AV.bool true), Qst.pure [] 48 [AV.int IntKind.u64 (Int.ofNat w)] (AV.tuple [AV.int IntKind.u8 (Int.ofNat s), AV.int IntKind.u32 (Int.ofNat g)]), Qst.val (some (AV.bool (Int.ofNat s == Int.ofNat 1))) (AV.bool true), Qst.pure [] 108 [AV.int IntKind.u8 (Int.ofNat 2), AV.int IntKind.u32 (Int.ofNat g)] (AV.int IntKind.u64 (Int.ofNat v))]) := by kernel_rfl
theorem dn6n (w s g m _ : Nat) : runX Tryd.prog none_ 50 97 (.call 97 [.int .u64 (Int.ofNat w), .int .i64 6, .int .u32 (Int.ofNat m)] (startS Tryd.prog [])) [.pure 97 1 2 [] (.bool true), .pure 97 3 1 [] (.tuple [.int .u8 (Int.ofNat s), .int .u32 (Int.ofNat g)]), .val 97 21 1 (.bool false)] = some ({ e := AExit.ret, ts := [AV.tuple [AV.int IntKind.u64 (Int.ofNat 0), AV.bool false]], s := { h := { bs := [], len := 0, esc := none, wr := [] }, nx := 2 } }, [], [Qst.pure [] 107 [AV.int IntKind.u64 (Int.ofNat w), AV.int IntKind.u32 (Int.ofNat m)] (AV.bool true), Qst.pure [] 48 [AV.int IntKind.u64 (Int.ofNat w)] (AV.tuple [AV.int IntKind.u8 (Int.ofNat s), AV.int IntKind.u32 (Int.ofNat g)]), Qst.val (some (AV.bool (Int.ofNat s == Int.ofNat 0))) (AV.bool false)]) := by kernel_rfl
theorem dn6y (w s g m v : Nat) : runX Tryd.prog none_ 50 97 (.call 97 [.int .u64 (Int.ofNat w), .int .i64 6, .int .u32 (Int.ofNat m)] (startS Tryd.prog [])) [.pure 97 1 2 [] (.bool true), .pure 97 3 1 [] (.tuple [.int .u8 (Int.ofNat s), .int .u32 (Int.ofNat g)]), .val 97 21 1 (.bool true), .pure 97 22 1 [] (.int .u64 (Int.ofNat v))] = some ({ e := AExit.ret, ts := [AV.tuple [AV.int IntKind.u64 (Int.ofNat v), AV.bool true]], s := { h := { bs := [], len := 0, esc := none, wr := [] }, nx := 2 } }, [], [Qst.pure [] 107 [AV.int IntKind.u64 (Int.ofNat w), AV.int IntKind.u32 (Int.ofNat m)] (AV.bool true), Qst.pure [] 48 [AV.int IntKind.u64 (Int.ofNat w)] (AV.tuple [AV.int IntKind.u8 (Int.ofNat s), AV.int IntKind.u32 (Int.ofNat g)]), Qst.val (some (AV.bool (Int.ofNat s == Int.ofNat 0))) (AV.bool true), Qst.pure [] 108 [AV.int IntKind.u8 (Int.ofNat 3), AV.int IntKind.u32 (Int.ofNat g)] (AV.int IntKind.u64 (Int.ofNat v))]) := by kernel_rfl
theorem dn7n (w s g m _ : Nat) : runX Tryd.prog none_ 50 97 (.call 97 [.int .u64 (Int.ofNat w), .int .i64 7, .int .u32 (Int.ofNat m)] (startS Tryd.prog [])) [.pure 97 1 2 [] (.bool true), .pure 97 3 1 [] (.tuple [.int .u8 (Int.ofNat s), .int .u32 (Int.ofNat g)]), .val 97 24 1 (.bool false)] = some ({ e := AExit.ret, ts := [AV.tuple [AV.int IntKind.u64 (Int.ofNat 0), AV.bool false]], s := { h := { bs := [], len := 0, esc := none, wr := [] }, nx := 2 } }, [], [Qst.pure [] 107 [AV.int IntKind.u64 (Int.ofNat w), AV.int IntKind.u32 (Int.ofNat m)] (AV.bool true), Qst.pure [] 48 [AV.int IntKind.u64 (Int.ofNat w)] (AV.tuple [AV.int IntKind.u8 (Int.ofNat s), AV.int IntKind.u32 (Int.ofNat g)]), Qst.val (some (AV.bool (Int.ofNat s == Int.ofNat 3))) (AV.bool false)]) := by kernel_rfl
theorem dn7y (w s g m v : Nat) : runX Tryd.prog none_ 50 97 (.call 97 [.int .u64 (Int.ofNat w), .int .i64 7, .int .u32 (Int.ofNat m)] (startS Tryd.prog [])) [.pure 97 1 2 [] (.bool true), .pure 97 3 1 [] (.tuple [.int .u8 (Int.ofNat s), .int .u32 (Int.ofNat g)]), .val 97 24 1 (.bool true), .pure 97 25 1 [] (.int .u64 (Int.ofNat v))] = some ({ e := AExit.ret, ts := [AV.tuple [AV.int IntKind.u64 (Int.ofNat v), AV.bool true]], s := { h := { bs := [], len := 0, esc := none, wr := [] }, nx := 2 } }, [], [Qst.pure [] 107 [AV.int IntKind.u64 (Int.ofNat w), AV.int IntKind.u32 (Int.ofNat m)] (AV.bool true), Qst.pure [] 48 [AV.int IntKind.u64 (Int.ofNat w)] (AV.tuple [AV.int IntKind.u8 (Int.ofNat s), AV.int IntKind.u32 (Int.ofNat g)]), Qst.val (some (AV.bool (Int.ofNat s == Int.ofNat 3))) (AV.bool true), Qst.pure [] 108 [AV.int IntKind.u8 (Int.ofNat 0), AV.int IntKind.u32 (Int.ofNat g)] (AV.int IntKind.u64 (Int.ofNat v))]) := by kernel_rfl
theorem dn3n (w s g m _ : Nat) : runX Tryd.prog none_ 50 97 (.call 97 [.int .u64 (Int.ofNat w), .int .i64 3, .int .u32 (Int.ofNat m)] (startS Tryd.prog [])) [.pure 97 1 2 [] (.bool true), .pure 97 3 1 [] (.tuple [.int .u8 (Int.ofNat s), .int .u32 (Int.ofNat g)]), .val 97 12 1 (.bool false)] = some ({ e := AExit.ret, ts := [AV.tuple [AV.int IntKind.u64 (Int.ofNat 0), AV.bool false]], s := { h := { bs := [], len := 0, esc := none, wr := [] }, nx := 2 } }, [], [Qst.pure [] 107 [AV.int IntKind.u64 (Int.ofNat w), AV.int IntKind.u32 (Int.ofNat m)] (AV.bool true), Qst.pure [] 48 [AV.int IntKind.u64 (Int.ofNat w)] (AV.tuple [AV.int IntKind.u8 (Int.ofNat s), AV.int IntKind.u32 (Int.ofNat g)]), Qst.val (some (AV.bool (Int.ofNat s == Int.ofNat 2))) (AV.bool false)]) := by kernel_rfl
theorem dn3m (w s g m _ : Nat) : runX Tryd.prog none_ 50 97 (.call 97 [.int .u64 (Int.ofNat w), .int .i64 3, .int .u32 (Int.ofNat m)] (startS Tryd.prog [])) [.pure 97 1 2 [] (.bool true), .pure 97 3 1 [] (.tuple [.int .u8 (Int.ofNat s), .int .u32 (Int.ofNat g)]), .val 97 12 1 (.bool true), .val 97 12 5 (.bool false)] = some ({ e := AExit.ret, ts := [AV.tuple [AV.int IntKind.u64 (Int.ofNat 0), AV.bool false]], s := { h := { bs := [], len := 0, esc := none, wr := [] }, nx := 2 } }, [], [Qst.pure [] 107 [AV.int IntKind.u64 (Int.ofNat w), AV.int IntKind.u32 (Int.ofNat m)] (AV.bool true), Qst.pure [] 48 [AV.int IntKind.u64 (Int.ofNat w)] (AV.tuple [AV.int IntKind.u8 (Int.ofNat s), AV.int IntKind.u32 (Int.ofNat g)]), Qst.val (some (AV.bool (Int.ofNat s == Int.ofNat 2))) (AV.bool true), Qst.val (some (AV.bool (decide (Int.ofNat g < Int.ofNat m)))) (AV.bool false)]) := by kernel_rfl
theorem dn3y (w s g m v : Nat) : runX Tryd.prog none_ 50 97 (.call 97 [.int .u64 (Int.ofNat w), .int .i64 3, .int .u32 (Int.ofNat m)] (startS Tryd.prog [])) [.pure 97 1 2 [] (.bool true), .pure 97 3 1 [] (.tuple [.int .u8 (Int.ofNat s), .int .u32 (Int.ofNat g)]), .val 97 12 1 (.bool true), .val 97 12 5 (.bool true), .val 97 13 1 (.int .u32 (Int.ofNat (g + 1))), .pure 97 13 2 [] (.int .u64 (Int.ofNat v))] = some ({ e := AExit.ret, ts := [AV.tuple [AV.int IntKind.u64 (Int.ofNat v), AV.bool true]], s := { h := { bs := [], len := 0, esc := none, wr := [] }, nx := 2 } }, [], [Qst.pure [] 107 [AV.int IntKind.u64 (Int.ofNat w), AV.int IntKind.u32 (Int.ofNat m)] (AV.bool true), Qst.pure [] 48 [AV.int IntKind.u64 (Int.ofNat w)] (AV.tuple [AV.int IntKind.u8 (Int.ofNat s), AV.int IntKind.u32 (Int.ofNat g)]), Qst.val (some (AV.bool (Int.ofNat s == Int.ofNat 2))) (AV.bool true), Qst.val (some (AV.bool (decide (Int.ofNat g < Int.ofNat m)))) (AV.bool true), Qst.val (some (AV.int IntKind.u32 (Int.ofNat ((g + 1) % ((2 : Int) ^ IntKind.u32.bits).natAbs)))) (AV.int IntKind.u32 (Int.ofNat (g + 1))), Qst.pure [] 108 [AV.int IntKind.u8 (Int.ofNat 0), AV.int IntKind.u32 (Int.ofNat (g + 1))] (AV.int IntKind.u64 (Int.ofNat v))]) := by kernel_rfl
theorem dn4n (w s g m _ : Nat) : runX Tryd.prog none_ 50 97 (.call 97 [.int .u64 (Int.ofNat w), .int .i64 4, .int .u32 (Int.ofNat m)] (startS Tryd.prog [])) [.pure 97 1 2 [] (.bool true), .pure 97 3 1 [] (.tuple [.int .u8 (Int.ofNat s), .int .u32 (Int.ofNat g)]), .val 97 15 1 (.bool false)] = some ({ e := AExit.ret, ts := [AV.tuple [AV.int IntKind.u64 (Int.ofNat 0), AV.bool false]], s := { h := { bs := [], len := 0, esc := none, wr := [] }, nx := 2 } }, [], [Qst.pure [] 107 [AV.int IntKind.u64 (Int.ofNat w), AV.int IntKind.u32 (Int.ofNat m)] (AV.bool true), Qst.pure [] 48 [AV.int IntKind.u64 (Int.ofNat w)] (AV.tuple [AV.int IntKind.u8 (Int.ofNat s), AV.int IntKind.u32 (Int.ofNat g)]), Qst.val (some (AV.bool (Int.ofNat s == Int.ofNat 1))) (AV.bool false)]) := by kernel_rfl
theorem dn4m (w s g m _ : Nat) : runX Tryd.prog none_ 50 97 (.call 97 [.int .u64 (Int.ofNat w), .int .i64 4, .int .u32 (Int.ofNat m)] (startS Tryd.prog [])) [.pure 97 1 2 [] (.bool true), .pure 97 3 1 [] (.tuple [.int .u8 (Int.ofNat s), .int .u32 (Int.ofNat g)]), .val 97 15 1 (.bool true), .val 97 15 5 (.bool false)] = some ({ e := AExit.ret, ts := [AV.tuple [AV.int IntKind.u64 (Int.ofNat 0), AV.bool false]], s := { h := { bs := [], len := 0, esc := none, wr := [] }, nx := 2 } }, [], [Qst.pure [] 107 [AV.int IntKind.u64 (Int.ofNat w), AV.int IntKind.u32 (Int.ofNat m)] (AV.bool true), Qst.pure [] 48 [AV.int IntKind.u64 (Int.ofNat w)] (AV.tuple [AV.int IntKind.u8 (Int.ofNat s), AV.int IntKind.u32 (Int.ofNat g)]), Qst.val (some (AV.bool (Int.ofNat s == Int.ofNat 1))) (AV.bool true), Qst.val (some (AV.bool (decide (Int.ofNat g < Int.ofNat m)))) (AV.bool false)]) := by kernel_rfl
theorem dn4y (w s g m v : Nat) : runX Tryd.prog none_ 50 97 (.call 97 [.int .u64 (Int.ofNat w), .int .i64 4, .int .u32 (Int.ofNat m)] (startS Tryd.prog [])) [.pure 97 1 2 [] (.bool true), .pure 97 3 1 [] (.tuple [.int .u8 (Int.ofNat s), .int .u32 (Int.ofNat g)]), .val 97 15 1 (.bool true), .val 97 15 5 (.bool true), .val 97 16 1 (.int .u32 (Int.ofNat (g + 1))), .pure 97 16 2 [] (.int .u64 (Int.ofNat v))] = some ({ e := AExit.ret, ts := [AV.tuple [AV.int IntKind.u64 (Int.ofNat v), AV.bool true]], s := { h := { bs := [], len := 0, esc := none, wr := [] }, nx := 2 } }, [], [Qst.pure [] 107 [AV.int IntKind.u64 (Int.ofNat w), AV.int IntKind.u32 (Int.ofNat m)] (AV.bool true), Qst.pure [] 48 [AV.int IntKind.u64 (Int.ofNat w)] (AV.tuple [AV.int IntKind.u8 (Int.ofNat s), AV.int IntKind.u32 (Int.ofNat g)]), Qst.val (some (AV.bool (Int.ofNat s == Int.ofNat 1))) (AV.bool true), Qst.val (some (AV.bool (decide (Int.ofNat g < Int.ofNat m)))) (AV.bool true), Qst.val (some (AV.int IntKind.u32 (Int.ofNat ((g + 1) % ((2 : Int) ^ IntKind.u32.bits).natAbs)))) (AV.int IntKind.u32 (Int.ofNat (g + 1))), Qst.pure [] 108 [AV.int IntKind.u8 (Int.ofNat 0), AV.int IntKind.u32 (Int.ofNat (g + 1))] (AV.int IntKind.u64 (Int.ofNat v))]) := by kernel_rfl
theorem dn5n (w s g m _ : Nat) : runX Tryd.prog none_ 50 97 (.call 97 [.int .u64 (Int.ofNat w), .int .i64 5, .int .u32 (Int.ofNat m)] (startS Tryd.prog [])) [.pure 97 1 2 [] (.bool true), .pure 97 3 1 [] (.tuple [.int .u8 (Int.ofNat s), .int .u32 (Int.ofNat g)]), .val 97 18 1 (.bool false), .val 97 18 4 (.bool false)] = some ({ e := AExit.ret, ts := [AV.tuple [AV.int IntKind.u64 (Int.ofNat 0), AV.bool false]], s := { h := { bs := [], len := 0, esc := none, wr := [] }, nx := 2 } }, [], [Qst.pure [] 107 [AV.int IntKind.u64 (Int.ofNat w), AV.int IntKind.u32 (Int.ofNat m)] (AV.bool true), Qst.pure [] 48 [AV.int IntKind.u64 (Int.ofNat w)] (AV.tuple [AV.int IntKind.u8 (Int.ofNat s), AV.int IntKind.u32 (Int.ofNat g)]), Qst.val (some (AV.bool (Int.ofNat s == Int.ofNat 1))) (AV.bool false), Qst.val (some (AV.bool (Int.ofNat s == Int.ofNat 2))) (AV.bool false)]) := by kernel_rfl
theorem dn5an (w s g m _ : Nat) : runX Tryd.prog none_ 50 97 (.call 97 [.int .u64 (Int.ofNat w), .int .i64 5, .int .u32 (Int.ofNat m)] (startS Tryd.prog [])) [.pure 97 1 2 [] (.bool true), .pure 97 3 1 [] (.tuple [.int .u8 (Int.ofNat s), .int .u32 (Int.ofNat g)]), .val 97 18 1 (.bool true), .val 97 18 9 (.bool false)] = some ({ e := AExit.ret, ts := [AV.tuple [AV.int IntKind.u64 (Int.ofNat 0), AV.bool false]], s := { h := { bs := [], len := 0, esc := none, wr := [] }, nx := 2 } }, [], [Qst.pure [] 107 [AV.int IntKind.u64 (Int.ofNat w), AV.int IntKind.u32 (Int.ofNat m)] (AV.bool true), Qst.pure [] 48 [AV.int IntKind.u64 (Int.ofNat w)] (AV.tuple [AV.int IntKind.u8 (Int.ofNat s), AV.int IntKind.u32 (Int.ofNat g)]), Qst.val (some (AV.bool (Int.ofNat s == Int.ofNat 1))) (AV.bool true), Qst.val (some (AV.bool (Int.ofNat g == Int.ofNat m))) (AV.bool false)]) := by kernel_rfl
theorem dn5ay (w s g m v : Nat) : runX Tryd.prog none_ 50 97 (.call 97 [.int .u64 (Int.ofNat w), .int .i64 5, .int .u32 (Int.ofNat m)] (startS Tryd.prog [])) [.pure 97 1 2 [] (.bool true), .pure 97 3 1 [] (.tuple [.int .u8 (Int.ofNat s), .int .u32 (Int.ofNat g)]), .val 97 18 1 (.bool true), .val 97 18 9 (.bool true), .pure 97 19 1 [] (.int .u64 (Int.ofNat v))] = some ({ e := AExit.ret, ts := [AV.tuple [AV.int IntKind.u64 (Int.ofNat v), AV.bool true]], s := { h := { bs := [], len := 0, esc := none, wr := [] }, nx := 2 } }, [], [Qst.pure [] 107 [AV.int IntKind.u64 (Int.ofNat w), AV.int IntKind.u32 (Int.ofNat m)] (AV.bool true), Qst.pure [] 48 [AV.int IntKind.u64 (Int.ofNat w)] (AV.tuple [AV.int IntKind.u8 (Int.ofNat s), AV.int IntKind.u32 (Int.ofNat g)]), Qst.val (some (AV.bool (Int.ofNat s == Int.ofNat 1))) (AV.bool true), Qst.val (some (AV.bool (Int.ofNat g == Int.ofNat m))) (AV.bool true), Qst.pure [] 108 [AV.int IntKind.u8 (Int.ofNat 4), AV.int IntKind.u32 (Int.ofNat g)] (AV.int IntKind.u64 (Int.ofNat v))]) := by kernel_rfl
theorem dn5bn (w s g m _ : Nat) : runX Tryd.prog none_ 50 97 (.call 97 [.int .u64 (Int.ofNat w), .int .i64 5, .int .u32 (Int.ofNat m)] (startS Tryd.prog [])) [.pure 97 1 2 [] (.bool true), .pure 97 3 1 [] (.tuple [.int .u8 (Int.ofNat s), .int .u32 (Int.ofNat g)]), .val 97 18 1 (.bool false), .val 97 18 4 (.bool true), .val 97 18 9 (.bool false)] = some ({ e := AExit.ret, ts := [AV.tuple [AV.int IntKind.u64 (Int.ofNat 0), AV.bool false]], s := { h := { bs := [], len := 0, esc := none, wr := [] }, nx := 2 } }, [], [Qst.pure [] 107 [AV.int IntKind.u64 (Int.ofNat w), AV.int IntKind.u32 (Int.ofNat m)] (AV.bool true), Qst.pure [] 48 [AV.int IntKind.u64 (Int.ofNat w)] (AV.tuple [AV.int IntKind.u8 (Int.ofNat s), AV.int IntKind.u32 (Int.ofNat g)]), Qst.val (some (AV.bool (Int.ofNat s == Int.ofNat 1))) (AV.bool false), Qst.val (some (AV.bool (Int.ofNat s == Int.ofNat 2))) (AV.bool true), Qst.val (some (AV.bool (Int.ofNat g == Int.ofNat m))) (AV.bool false)]) := by kernel_rfl
theorem dn5by (w s g m v : Nat) : runX Tryd.prog none_ 50 97 (.call 97 [.int .u64 (Int.ofNat w), .int .i64 5, .int .u32 (Int.ofNat m)] (startS Tryd.prog [])) [.pure 97 1 2 [] (.bool true), .pure 97 3 1 [] (.tuple [.int .u8 (Int.ofNat s), .int .u32 (Int.ofNat g)]), .val 97 18 1 (.bool false), .val 97 18 4 (.bool true), .val 97 18 9 (.bool true), .pure 97 19 1 [] (.int .u64 (Int.ofNat v))] = some ({ e := AExit.ret, ts := [AV.tuple [AV.int IntKind.u64 (Int.ofNat v), AV.bool true]], s := { h := { bs := [], len := 0, esc := none, wr := [] }, nx := 2 } }, [], [Qst.pure [] 107 [AV.int IntKind.u64 (Int.ofNat w), AV.int IntKind.u32 (Int.ofNat m)] (AV.bool true), Qst.pure [] 48 [AV.int IntKind.u64 (Int.ofNat w)] (AV.tuple [AV.int IntKind.u8 (Int.ofNat s), AV.int IntKind.u32 (Int.ofNat g)]), Qst.val (some (AV.bool (Int.ofNat s == Int.ofNat 1))) (AV.bool false), Qst.val (some (AV.bool (Int.ofNat s == Int.ofNat 2))) (AV.bool true), Qst.val (some (AV.bool (Int.ofNat g == Int.ofNat m))) (AV.bool true), Qst.pure [] 108 [AV.int IntKind.u8 (Int.ofNat 4), AV.int IntKind.u32 (Int.ofNat g)] (AV.int IntKind.u64 (Int.ofNat v))]) := by kernel_rfl
def Tq (w v m c r : Nat) : List AV := [.int .u64 (Int.ofNat w), .int .u64 (Int.ofNat v), .int .u32 (Int.ofNat m), junkA, junkA, junkA, .int .i64 (Int.ofNat r), .int .i64 (Int.ofNat c), junkA, junkA, junkA, junkA, junkA, junkA, junkA, junkA, junkA, junkA, junkA, junkA, junkA, junkA, junkA, junkA, junkA, junkA, junkA, junkA]
theorem oq_end (w v m c _ : Nat) : runX Tryd.prog none_ 50 66 (.code (loopAt Tryd.prog 66 0) (Tq w v m c 0) ⟨⟨[], 0, none, []⟩, 2⟩) [.val 66 2 1 (.bool false)] = some ({ e := AExit.exit 0, ts := [AV.int IntKind.u64 (Int.ofNat w), AV.int IntKind.u64 (Int.ofNat v), AV.int IntKind.u32 (Int.ofNat m), AV.tuple [AV.nilMap], AV.tuple [AV.nilMap], AV.tuple [AV.nilMap], AV.int IntKind.i64 (Int.ofNat 0), AV.int IntKind.i64 (Int.ofNat c), AV.tuple [AV.nilMap], AV.tuple [AV.nilMap], AV.int IntKind.i64 (Int.ofNat c), AV.bool false, AV.tuple [AV.nilMap], AV.tuple [AV.nilMap], AV.tuple [AV.nilMap], AV.tuple [AV.nilMap], AV.tuple [AV.nilMap], AV.tuple [AV.nilMap], AV.tuple [AV.nilMap], AV.tuple [AV.nilMap], AV.tuple [AV.nilMap], AV.tuple [AV.nilMap], AV.tuple [AV.nilMap], AV.tuple [AV.nilMap], AV.tuple [AV.nilMap], AV.tuple [AV.nilMap], AV.tuple [AV.nilMap], AV.tuple [AV.nilMap]], s := { h := { bs := [], len := 0, esc := none, wr := [] }, nx := 2 } }, [], [Qst.val (some (AV.bool (decide (Int.ofNat c ≤ 7)))) (AV.bool false)]) := by kernel_rfl
theorem oq_go0 (w v m c x : Nat) : runX Tryd.prog none_ 50 66 (.code (loopAt Tryd.prog 66 0) (Tq w v m c 0) ⟨⟨[], 0, none, []⟩, 2⟩) [.val 66 2 1 (.bool true), .pure 66 4 3 [] (.tuple [.int .u64 (Int.ofNat x), .bool false]), .val 66 3 1 (.int .i64 (Int.ofNat (c + 1)))] = some ({ e := AExit.normal, ts := [AV.int IntKind.u64 (Int.ofNat w), AV.int IntKind.u64 (Int.ofNat v), AV.int IntKind.u32 (Int.ofNat m), AV.tuple [AV.nilMap], AV.tuple [AV.nilMap], AV.tuple [AV.nilMap], AV.int IntKind.i64 (Int.ofNat 0), AV.int IntKind.i64 (Int.ofNat (c + 1)), AV.int IntKind.u64 (Int.ofNat x), AV.bool false, AV.int IntKind.i64 (Int.ofNat c), AV.bool true, AV.int IntKind.i64 (Int.ofNat c), AV.int IntKind.i64 (Int.ofNat (c + 1)), AV.tuple [AV.int IntKind.u64 (Int.ofNat x), AV.bool false], AV.int IntKind.u64 (Int.ofNat w), AV.int IntKind.i64 (Int.ofNat c), AV.int IntKind.u32 (Int.ofNat m), AV.tuple [AV.int IntKind.u64 (Int.ofNat x), AV.bool false], AV.int IntKind.u64 (Int.ofNat x), AV.bool false, AV.bool false, AV.bool false, AV.tuple [], AV.tuple [], AV.tuple [], AV.bool false, AV.tuple [AV.nilMap]], s := { h := { bs := [], len := 0, esc := none, wr := [] }, nx := 2 } }, [], [Qst.val (some (AV.bool (decide (Int.ofNat c ≤ 7)))) (AV.bool true), Qst.pure [] 97 [AV.int IntKind.u64 (Int.ofNat w), AV.int IntKind.i64 (Int.ofNat c), AV.int IntKind.u32 (Int.ofNat m)] (AV.tuple [AV.int IntKind.u64 (Int.ofNat x), AV.bool false]), Qst.val (some (AV.int IntKind.i64 (IntKind.i64.wrap (Int.ofNat (c + 1))))) (AV.int IntKind.i64 (Int.ofNat (c + 1)))]) := by kernel_rfl
theorem oq_go1 (w v m c x : Nat) : runX Tryd.prog none_ 50 66 (.code (loopAt Tryd.prog 66 0) (Tq w v m c 0) ⟨⟨[], 0, none, []⟩, 2⟩) [.val 66 2 1 (.bool true), .pure 66 4 3 [] (.tuple [.int .u64 (Int.ofNat x), .bool true]), .val 66 5 4 (.bool false), .val 66 3 1 (.int .i64 (Int.ofNat (c + 1)))] = some ({ e := AExit.normal, ts := [AV.int IntKind.u64 (Int.ofNat w), AV.int IntKind.u64 (Int.ofNat v), AV.int IntKind.u32 (Int.ofNat m), AV.tuple [AV.nilMap], AV.tuple [AV.nilMap], AV.tuple [AV.nilMap], AV.int IntKind.i64 (Int.ofNat 0), AV.int IntKind.i64 (Int.ofNat (c + 1)), AV.int IntKind.u64 (Int.ofNat x), AV.bool true, AV.int IntKind.i64 (Int.ofNat c), AV.bool true, AV.int IntKind.i64 (Int.ofNat c), AV.int IntKind.i64 (Int.ofNat (c + 1)), AV.tuple [AV.int IntKind.u64 (Int.ofNat x), AV.bool true], AV.int IntKind.u64 (Int.ofNat w), AV.int IntKind.i64 (Int.ofNat c), AV.int IntKind.u32 (Int.ofNat m), AV.tuple [AV.int IntKind.u64 (Int.ofNat x), AV.bool true], AV.int IntKind.u64 (Int.ofNat x), AV.bool true, AV.bool true, AV.bool true, AV.int IntKind.u64 (Int.ofNat x), AV.int IntKind.u64 (Int.ofNat v), AV.bool false, AV.bool false, AV.tuple [AV.nilMap]], s := { h := { bs := [], len := 0, esc := none, wr := [] }, nx := 2 } }, [], [Qst.val (some (AV.bool (decide (Int.ofNat c ≤ 7)))) (AV.bool true), Qst.pure [] 97 [AV.int IntKind.u64 (Int.ofNat w), AV.int IntKind.i64 (Int.ofNat c), AV.int IntKind.u32 (Int.ofNat m)] (AV.tuple [AV.int IntKind.u64 (Int.ofNat x), AV.bool true]), Qst.val (some (AV.bool (Int.ofNat x == Int.ofNat v))) (AV.bool false), Qst.val (some (AV.int IntKind.i64 (IntKind.i64.wrap (Int.ofNat (c + 1))))) (AV.int IntKind.i64 (Int.ofNat (c + 1)))]) := by kernel_rfl
theorem oq_hit (w v m c x : Nat) : runX Tryd.prog none_ 50 66 (.code (loopAt Tryd.prog 66 0) (Tq w v m c 0) ⟨⟨[], 0, none, []⟩, 2⟩) [.val 66 2 1 (.bool true), .pure 66 4 3 [] (.tuple [.int .u64 (Int.ofNat x), .bool true]), .val 66 5 4 (.bool true)] = some ({ e := AExit.ret, ts := [AV.int IntKind.u64 (Int.ofNat w), AV.int IntKind.u64 (Int.ofNat v), AV.int IntKind.u32 (Int.ofNat m), AV.tuple [AV.nilMap], AV.tuple [AV.nilMap], AV.tuple [AV.nilMap], AV.int IntKind.i64 (Int.ofNat c), AV.int IntKind.i64 (Int.ofNat c), AV.int IntKind.u64 (Int.ofNat x), AV.bool true, AV.int IntKind.i64 (Int.ofNat c), AV.bool true, AV.tuple [AV.nilMap], AV.tuple [AV.nilMap], AV.tuple [AV.int IntKind.u64 (Int.ofNat x), AV.bool true], AV.int IntKind.u64 (Int.ofNat w), AV.int IntKind.i64 (Int.ofNat c), AV.int IntKind.u32 (Int.ofNat m), AV.tuple [AV.int IntKind.u64 (Int.ofNat x), AV.bool true], AV.int IntKind.u64 (Int.ofNat x), AV.bool true, AV.bool true, AV.bool true, AV.int IntKind.u64 (Int.ofNat x), AV.int IntKind.u64 (Int.ofNat v), AV.bool true, AV.bool true, AV.int IntKind.i64 (Int.ofNat c)], s := { h := { bs := [], len := 0, esc := none, wr := [] }, nx := 2 } }, [], [Qst.val (some (AV.bool (decide (Int.ofNat c ≤ 7)))) (AV.bool true), Qst.pure [] 97 [AV.int IntKind.u64 (Int.ofNat w), AV.int IntKind.i64 (Int.ofNat c), AV.int IntKind.u32 (Int.ofNat m)] (AV.tuple [AV.int IntKind.u64 (Int.ofNat x), AV.bool true]), Qst.val (some (AV.bool (Int.ofNat x == Int.ofNat v))) (AV.bool true)]) := by kernel_rfl
theorem oq_run1 (w v m c : Nat) : runX Tryd.prog none_ 50 66 (.call 66 [.int .u64 (Int.ofNat w), .int .u64 (Int.ofNat v), .int .u32 (Int.ofNat m)] (startS Tryd.prog [])) [.loop 66 (fun _ s => ⟨.ret, Tq w v m c c, s⟩)] = some ({ e := AExit.ret, ts := [AV.int IntKind.i64 (Int.ofNat c)], s := { h := { bs := [], len := 0, esc := none, wr := [] }, nx := 2 } }, [], [Qst.snd (Task.code (Code.loop (loopAt Tryd.prog 66 0)) [AV.int IntKind.u64 (Int.ofNat w), AV.int IntKind.u64 (Int.ofNat v), AV.int IntKind.u32 (Int.ofNat m), AV.tuple [], AV.tuple [], AV.tuple [], AV.int IntKind.i64 (Int.ofNat 0), AV.int IntKind.i64 (Int.ofNat 1), AV.tuple [], AV.tuple [], AV.tuple [], AV.tuple [], AV.tuple [], AV.tuple [], AV.tuple [], AV.tuple [], AV.tuple [], AV.tuple [], AV.tuple [], AV.tuple [], AV.tuple [], AV.tuple [], AV.tuple [], AV.tuple [], AV.tuple [], AV.tuple [], AV.tuple [], AV.tuple []] { h := { bs := [], len := 0, esc := none, wr := [] }, nx := 2 }) { e := AExit.ret, ts := [AV.int IntKind.u64 (Int.ofNat w), AV.int IntKind.u64 (Int.ofNat v), AV.int IntKind.u32 (Int.ofNat m), AV.tuple [AV.nilMap], AV.tuple [AV.nilMap], AV.tuple [AV.nilMap], AV.int IntKind.i64 (Int.ofNat c), AV.int IntKind.i64 (Int.ofNat c), AV.tuple [AV.nilMap], AV.tuple [AV.nilMap], AV.tuple [AV.nilMap], AV.tuple [AV.nilMap], AV.tuple [AV.nilMap], AV.tuple [AV.nilMap], AV.tuple [AV.nilMap], AV.tuple [AV.nilMap], AV.tuple [AV.nilMap], AV.tuple [AV.nilMap], AV.tuple [AV.nilMap], AV.tuple [AV.nilMap], AV.tuple [AV.nilMap], AV.tuple [AV.nilMap], AV.tuple [AV.nilMap], AV.tuple [AV.nilMap], AV.tuple [AV.nilMap], AV.tuple [AV.nilMap], AV.tuple [AV.nilMap], AV.tuple [AV.nilMap]], s := { h := { bs := [], len := 0, esc := none, wr := [] }, nx := 2 } }]) := by kernel_rfl
theorem oq_run0 (w v m c : Nat) : runX Tryd.prog none_ 50 66 (.call 66 [.int .u64 (Int.ofNat w), .int .u64 (Int.ofNat v), .int .u32 (Int.ofNat m)] (startS Tryd.prog [])) [.loop 66 (fun _ s => ⟨.exit 0, Tq w v m c 0, s⟩)] = some ({ e := AExit.ret, ts := [AV.int IntKind.i64 (Int.ofNat 0)], s := { h := { bs := [], len := 0, esc := none, wr := [] }, nx := 2 } }, [], [Qst.snd (Task.code (Code.loop (loopAt Tryd.prog 66 0)) [AV.int IntKind.u64 (Int.ofNat w), AV.int IntKind.u64 (Int.ofNat v), AV.int IntKind.u32 (Int.ofNat m), AV.tuple [], AV.tuple [], AV.tuple [], AV.int IntKind.i64 (Int.ofNat 0), AV.int IntKind.i64 (Int.ofNat 1), AV.tuple [], AV.tuple [], AV.tuple [], AV.tuple [], AV.tuple [], AV.tuple [], AV.tuple [], AV.tuple [], AV.tuple [], AV.tuple [], AV.tuple [], AV.tuple [], AV.tuple [], AV.tuple [], AV.tuple [], AV.tuple [], AV.tuple [], AV.tuple [], AV.tuple [], AV.tuple []] { h := { bs := [], len := 0, esc := none, wr := [] }, nx := 2 }) { e := AExit.exit 0, ts := [AV.int IntKind.u64 (Int.ofNat w), AV.int IntKind.u64 (Int.ofNat v), AV.int IntKind.u32 (Int.ofNat m), AV.tuple [AV.nilMap], AV.tuple [AV.nilMap], AV.tuple [AV.nilMap], AV.int IntKind.i64 (Int.ofNat 0), AV.int IntKind.i64 (Int.ofNat c), AV.tuple [AV.nilMap], AV.tuple [AV.nilMap], AV.tuple [AV.nilMap], AV.tuple [AV.nilMap], AV.tuple [AV.nilMap], AV.tuple [AV.nilMap], AV.tuple [AV.nilMap], AV.tuple [AV.nilMap], AV.tuple [AV.nilMap], AV.tuple [AV.nilMap], AV.tuple [AV.nilMap], AV.tuple [AV.nilMap], AV.tuple [AV.nilMap], AV.tuple [AV.nilMap], AV.tuple [AV.nilMap], AV.tuple [AV.nilMap], AV.tuple [AV.nilMap], AV.tuple [AV.nilMap], AV.tuple [AV.nilMap], AV.tuple [AV.nilMap]], s := { h := { bs := [], len := 0, esc := none, wr := [] }, nx := 2 } }]) := by kernel_rfl
theorem field_loop2 (w fr to : Nat) (hw : w < 18446744073709551616) (hto : to - fr ≤ 62 ∧ to ≤ 900) (st : SF w fr to) :
    SoundL Tryd.prog [] (.loop (loopAt Tryd.prog 72 0)) (Tf w fr to st.j st.out st.a) [] 0 2 (.exit 0) (Tf w fr to fr (fld w fr (to + 1 - fr)) (.bool false)) [] := by
  refine loop_ind (St := SF w fr to) (fun st => Tf w fr to st.j st.out st.a) (fun _ => []) (fun st => st.j - fr) (fun _ => .exit 0) (fun _ => Tf w fr to fr (fld w fr (to + 1 - fr)) (.bool false)) (fun _ => []) (fun st => ?_) st
  obtain ⟨j, out, a, hf, hj, ho⟩ := st
  dsimp only
  by_cases h : fr < j
  · obtain ⟨i, rfl⟩ : ∃ i, j = i + 1 := ⟨j - 1, by omega⟩
    have hb : out < 2 ^ (to + 1 - (i + 1)) := by rw [ho]; exact Nat.mod_lt _ (Nat.pow_pos (by omega))
    have hb2 := pow_le64 (n := to + 1 - (i + 1)) (by omega)
    have hbt : bt w i < 2 := Nat.mod_lt _ (by omega)
    have hnat : ((2 : Int) ^ IntKind.u64.bits).natAbs = 18446744073709551616 := by decide
    have hi1 : Int.ofNat (i + 1) - 1 = Int.ofNat i := by simp only [Int.ofNat_eq_natCast]; omega
    refine .inl ⟨⟨i, 2 * out + bt w i, .bool true, by omega, by omega, ?_⟩, by simp only; omega, rfl, rfl, rfl, SoundL.plain (runX_sound mixed none_sound (field_go w fr to (i + 1) out (bt w i) a) ⟨?_, ?_, ?_, ?_, trivial⟩) ?_⟩
    · rw [ho, show to + 1 - i = (to + 1 - (i + 1)) + 1 from by omega]
      exact fld_step w i _
    · simp only [Qst.ok, Option.some.injEq, AV.bool.injEq, decide_eq_true_eq, hi1]
      simp only [Int.ofNat_eq_natCast]; omega
    · simp only [Qst.ok, hnat]
      rw [Nat.mod_eq_of_lt (by omega)]
    · have := bit_call w i hw (by omega) ⟨⟨[], 0, none, []⟩, 2⟩
      rw [← hi1] at this
      exact this
    · simp only [Qst.ok, hnat]
      rw [Nat.mod_eq_of_lt (by omega)]
    · unfold Tf
      rw [show Int.ofNat (i + 1) - Int.ofNat 1 - Int.ofNat 1 = Int.ofNat i - 1 from by simp only [Int.ofNat_eq_natCast]; omega, i64_wrap (x := Int.ofNat i - 1) (by simp only [Int.ofNat_eq_natCast]; omega) (by simp only [Int.ofNat_eq_natCast]; omega)]
      repeat (first | exact rfl | refine ⟨_, _, rfl, ?_, ?_⟩ | exact .inr ⟨rfl, rfl⟩ | exact .inl ⟨rfl, rfl⟩)
  · have hk : j = fr := by omega
    subst hk
    refine .inr ⟨by simp, SoundL.plain (runX_sound mixed none_sound (field_end w j to j out a) ⟨?_, trivial⟩) ?_⟩
    · simp only [Qst.ok, Option.some.injEq, AV.bool.injEq, decide_eq_false_iff_not]
      simp only [Int.ofNat_eq_natCast]; omega
    · unfold Tf
      rw [← ho]
      repeat (first | exact rfl | refine ⟨_, _, rfl, ?_, ?_⟩ | exact .inr ⟨rfl, rfl⟩ | exact .inl ⟨rfl, rfl⟩)
theorem field_call2 (w fr to : Nat) (hw : w < 18446744073709551616) (hto : to - fr ≤ 62 ∧ to ≤ 900) (hf : fr ≤ to) (s : AS) : Sound Tryd.prog (.call 72 [.int .u64 (Int.ofNat w), .int .i64 (Int.ofNat fr), .int .i64 (Int.ofNat to)] s) ⟨.ret, [.int .u64 (Int.ofNat (fld w fr (to + 1 - fr)))], s⟩ := by
  refine Sound.pure (G := []) (runX_sound mixed none_sound (field_run w fr to (fld w fr (to + 1 - fr))) ⟨?_, trivial⟩) rfl rfl rfl rfl
  refine Sound.enter (ts' := Tf w fr to (to + 1) 0 undefA) (field_loop2 w fr to hw hto ⟨to + 1, 0, undefA, by omega, Nat.le_refl _, by unfold fld; rw [Nat.sub_self, Nat.pow_zero, Nat.mod_one]⟩ none none []) ?_
  unfold Tf
  rw [show Int.ofNat (to + 1) - 1 = Int.ofNat to from by simp only [Int.ofNat_eq_natCast]; omega]
  repeat (first | exact rfl | refine ⟨_, _, rfl, ?_, ?_⟩ | exact .inr ⟨rfl, rfl⟩ | exact .inl ⟨rfl, rfl⟩)
theorem mkw_iff (w : Nat) (hw : w < 18446744073709551616) : mkw (hs w) (hg w) = w ↔ (w % 8 ≤ 4 ∧ w / 34359738368 = 0) := by
  unfold mkw hs hg
  constructor
  · intro h
    split at h <;> omega
  · intro h
    rw [if_neg (by omega)]
    omega
theorem rmay_call (w m : Nat) (hw : w < 18446744073709551616) (hm : m < 4294967296) (st : AS) : Sound Tryd.prog (.call 107 [.int .u64 (Int.ofNat w), .int .u32 (Int.ofNat m)] st) ⟨.ret, [.bool (mayP w m)], st⟩ := by
  have q1 : ∀ s, hasG s [] = true → Sound Tryd.prog (.call 72 [.int .u64 (Int.ofNat w), .int .i64 0, .int .i64 2] s) ⟨.ret, [.int .u64 (Int.ofNat (w % 8))], s⟩ := fun s _ => by
    have := field_call w 0 2 hw (by omega) (by omega) s
    rwa [show fld w 0 (2 + 1 - 0) = w % 8 from by simp [fld]] at this
  have q2 : ∀ s, hasG s [] = true → Sound Tryd.prog (.call 72 [.int .u64 (Int.ofNat w), .int .i64 3, .int .i64 34] s) ⟨.ret, [.int .u64 (Int.ofNat (hg w))], s⟩ := fun s _ => by
    have := field_call w 3 34 hw (by omega) (by omega) s
    rwa [show fld w 3 (34 + 1 - 3) = hg w from by simp [fld, hg]] at this
  have q3 : ∀ s, hasG s [] = true → Sound Tryd.prog (.call 72 [.int .u64 (Int.ofNat w), .int .i64 35, .int .i64 63] s) ⟨.ret, [.int .u64 (Int.ofNat (w / 34359738368))], s⟩ := fun s _ => by
    have := field_call2 w 35 63 hw (by omega) (by omega) s
    rwa [show fld w 35 (63 + 1 - 35) = w / 34359738368 from by simp [fld]; omega] at this
  have qm : m % ((2 : Int) ^ IntKind.u64.bits).natAbs = m := by rw [nat64]; omega
  have lt := hg_lt w
  unfold mayP
  by_cases h1 : w % 8 ≤ 4
  case neg =>
    rw [show (decide (mkw (hs w) (hg w) = w) && (decide (hg w ≤ m) && (decide (hs w ≠ 4) || decide (hg w = m)))) = false from by rw [show decide (mkw (hs w) (hg w) = w) = false from by rw [decide_eq_false_iff_not, mkw_iff w hw]; omega, Bool.false_and]]
    exact Sound.pure (G := []) (runX_sound mixed none_sound (rmay1 w (w % 8) (hg w) m 0) ⟨q1, q2, by simp [Qst.ok]; omega, trivial⟩) rfl rfl rfl rfl
  have k1 : (Qst.val (some (AV.bool (decide (Int.ofNat (w % 8) > Int.ofNat 4)))) (AV.bool false)).ok Tryd.prog := by simp [Qst.ok]; omega
  have h4 : hs w = w % 8 := by unfold hs; rw [if_neg (by omega)]
  by_cases h2 : w / 34359738368 = 0
  case neg =>
    rw [show (decide (mkw (hs w) (hg w) = w) && (decide (hg w ≤ m) && (decide (hs w ≠ 4) || decide (hg w = m)))) = false from by rw [show decide (mkw (hs w) (hg w) = w) = false from by rw [decide_eq_false_iff_not, mkw_iff w hw]; omega, Bool.false_and]]
    exact Sound.pure (G := []) (runX_sound mixed none_sound (rmay2 w (w % 8) (hg w) m (w / 34359738368)) ⟨q1, q2, k1, q3, by simp [Qst.ok]; omega, trivial⟩) rfl rfl rfl rfl
  have k2 : (Qst.val (some (AV.bool (Int.ofNat (w / 34359738368) != Int.ofNat 0))) (AV.bool false)).ok Tryd.prog := by simp [Qst.ok, h2]
  have km : (Qst.val (some (AV.int IntKind.u64 (Int.ofNat (m % ((2 : Int) ^ IntKind.u64.bits).natAbs)))) (AV.int IntKind.u64 (Int.ofNat m))).ok Tryd.prog := by simp only [Qst.ok, qm]
  rw [show decide (mkw (hs w) (hg w) = w) = true from by rw [decide_eq_true_eq, mkw_iff w hw]; exact ⟨h1, h2⟩, Bool.true_and]
  by_cases h3 : hg w ≤ m
  case neg =>
    rw [show (decide (hg w ≤ m) && (decide (hs w ≠ 4) || decide (hg w = m))) = false from by simp [h3]]
    exact Sound.pure (G := []) (runX_sound mixed none_sound (rmay3 w (w % 8) (hg w) m (w / 34359738368)) ⟨q1, q2, k1, q3, k2, km, by simp [Qst.ok]; omega, trivial⟩) rfl rfl rfl rfl
  have k3 : (Qst.val (some (AV.bool (decide (Int.ofNat (hg w) > Int.ofNat m)))) (AV.bool false)).ok Tryd.prog := by simp [Qst.ok]; omega
  by_cases h5 : hs w = 4
  · rw [show (decide (hg w ≤ m) && (decide (hs w ≠ 4) || decide (hg w = m))) = decide (hg w = m) from by simp [h3, h5]]
    exact Sound.pure (G := []) (runX_sound mixed none_sound (rmay5 w (w % 8) (hg w) m (w / 34359738368) (decide (hg w = m))) ⟨q1, q2, k1, q3, k2, km, k3, by simp [Qst.ok]; omega, km, by simp only [Qst.ok, Option.some.injEq, AV.bool.injEq, Int.ofNat_eq_natCast]; rw [Bool.eq_iff_iff]; simp; omega, trivial⟩) rfl rfl rfl rfl
  · rw [show (decide (hg w ≤ m) && (decide (hs w ≠ 4) || decide (hg w = m))) = true from by simp [h3, h5]]
    exact Sound.pure (G := []) (runX_sound mixed none_sound (rmay4 w (w % 8) (hg w) m (w / 34359738368)) ⟨q1, q2, k1, q3, k2, km, k3, by simp [Qst.ok]; omega, trivial⟩) rfl rfl rfl rfl
/-- What the chapter's change makes of a header. -/
def dF (w c m : Nat) : Nat × Bool :=
  if mayP w m = true then
    if c = 1 then (if hs w = 0 then (mkw 1 (hg w), true) else (0, false))
    else if c = 2 then (if hs w = 1 then (mkw 2 (hg w), true) else (0, false))
    else if c = 3 then (if hs w = 2 ∧ hg w < m then (mkw 0 (hg w + 1), true) else (0, false))
    else if c = 4 then (if hs w = 1 ∧ hg w < m then (mkw 0 (hg w + 1), true) else (0, false))
    else if c = 5 then (if (hs w = 1 ∨ hs w = 2) ∧ hg w = m then (mkw 4 (hg w), true) else (0, false))
    else if c = 6 then (if hs w = 0 then (mkw 3 (hg w), true) else (0, false))
    else (if hs w = 3 then (mkw 0 (hg w), true) else (0, false))
  else (0, false)
def dT (x : Nat × Bool) : AV := .tuple [.int .u64 (Int.ofNat x.1), .bool x.2]
theorem done_call (w c m : Nat) (hw : w < 18446744073709551616) (hm : m < 4294967296) (h1 : 1 ≤ c) (h7 : c ≤ 7) (st : AS) : Sound Tryd.prog (.call 97 [.int .u64 (Int.ofNat w), .int .i64 (Int.ofNat c), .int .u32 (Int.ofNat m)] st) ⟨.ret, [dT (dF w c m)], st⟩ := by
  have lt := hg_lt w
  have qm := fun (s : AS) (_ : hasG s [] = true) => rmay_call w m hw hm s
  unfold dF
  by_cases hp : mayP w m = true
  case neg =>
    rw [if_neg hp]
    rw [show mayP w m = false from by simpa using hp] at qm
    exact Sound.pure (G := []) (runX_sound mixed none_sound (dn0 w m c) ⟨qm, trivial⟩) rfl rfl rfl rfl
  rw [if_pos hp]
  rw [hp] at qm
  have qh := fun (s : AS) (_ : hasG s [] = true) => rhead w hw s
  have qr := fun (x g : Nat) (hx : x ≤ 4) (hg' : g < 4294967296) (s : AS) (_ : hasG s [] = true) => rhdr_call x g hx hg' s
  have yes : ∀ k, hs w = k → (Qst.val (some (AV.bool (Int.ofNat (hs w) == Int.ofNat k))) (AV.bool true)).ok Tryd.prog := fun k h => by simp [Qst.ok, h]
  have no : ∀ k, hs w ≠ k → (Qst.val (some (AV.bool (Int.ofNat (hs w) == Int.ofNat k))) (AV.bool false)).ok Tryd.prog := fun k h => by simp [Qst.ok]; omega
  have g1 : hg w < m → (Qst.val (some (AV.int IntKind.u32 (Int.ofNat ((hg w + 1) % ((2 : Int) ^ IntKind.u32.bits).natAbs)))) (AV.int IntKind.u32 (Int.ofNat (hg w + 1)))).ok Tryd.prog := fun h => by
    simp only [Qst.ok]; rw [nat32, Nat.mod_eq_of_lt (by omega)]
  have cs : c = 1 ∨ c = 2 ∨ c = 3 ∨ c = 4 ∨ c = 5 ∨ c = 6 ∨ c = 7 := by omega
  rcases cs with rfl | rfl | rfl | rfl | rfl | rfl | rfl
  · rw [if_pos rfl]
    by_cases h : hs w = 0
    · rw [if_pos h]
      exact Sound.pure (G := []) (runX_sound mixed none_sound (dn1y w (hs w) (hg w) m _) ⟨qm, qh, yes 0 h, qr 1 _ (by omega) lt, trivial⟩) rfl rfl rfl rfl
    · rw [if_neg h]
      exact Sound.pure (G := []) (runX_sound mixed none_sound (dn1n w (hs w) (hg w) m 0) ⟨qm, qh, no 0 h, trivial⟩) rfl rfl rfl rfl
  · rw [if_neg (by omega), if_pos rfl]
    by_cases h : hs w = 1
    · rw [if_pos h]
      exact Sound.pure (G := []) (runX_sound mixed none_sound (dn2y w (hs w) (hg w) m _) ⟨qm, qh, yes 1 h, qr 2 _ (by omega) lt, trivial⟩) rfl rfl rfl rfl
    · rw [if_neg h]
      exact Sound.pure (G := []) (runX_sound mixed none_sound (dn2n w (hs w) (hg w) m 0) ⟨qm, qh, no 1 h, trivial⟩) rfl rfl rfl rfl
  · rw [if_neg (by omega), if_neg (by omega), if_pos rfl]
    by_cases h : hs w = 2
    · by_cases h' : hg w < m
      · rw [if_pos ⟨h, h'⟩]
        exact Sound.pure (G := []) (runX_sound mixed none_sound (dn3y w (hs w) (hg w) m _) ⟨qm, qh, yes 2 h, by simp [Qst.ok]; omega, g1 h', qr 0 _ (by omega) (by omega), trivial⟩) rfl rfl rfl rfl
      · rw [if_neg (fun x => h' x.2)]
        exact Sound.pure (G := []) (runX_sound mixed none_sound (dn3m w (hs w) (hg w) m 0) ⟨qm, qh, yes 2 h, by simp [Qst.ok]; omega, trivial⟩) rfl rfl rfl rfl
    · rw [if_neg (fun x => h x.1)]
      exact Sound.pure (G := []) (runX_sound mixed none_sound (dn3n w (hs w) (hg w) m 0) ⟨qm, qh, no 2 h, trivial⟩) rfl rfl rfl rfl
  · rw [if_neg (by omega), if_neg (by omega), if_neg (by omega), if_pos rfl]
    by_cases h : hs w = 1
    · by_cases h' : hg w < m
      · rw [if_pos ⟨h, h'⟩]
        exact Sound.pure (G := []) (runX_sound mixed none_sound (dn4y w (hs w) (hg w) m _) ⟨qm, qh, yes 1 h, by simp [Qst.ok]; omega, g1 h', qr 0 _ (by omega) (by omega), trivial⟩) rfl rfl rfl rfl
      · rw [if_neg (fun x => h' x.2)]
        exact Sound.pure (G := []) (runX_sound mixed none_sound (dn4m w (hs w) (hg w) m 0) ⟨qm, qh, yes 1 h, by simp [Qst.ok]; omega, trivial⟩) rfl rfl rfl rfl
    · rw [if_neg (fun x => h x.1)]
      exact Sound.pure (G := []) (runX_sound mixed none_sound (dn4n w (hs w) (hg w) m 0) ⟨qm, qh, no 1 h, trivial⟩) rfl rfl rfl rfl
  · rw [if_neg (by omega), if_neg (by omega), if_neg (by omega), if_neg (by omega), if_pos rfl]
    by_cases h : hs w = 1
    · by_cases h' : hg w = m
      · rw [if_pos ⟨.inl h, h'⟩]
        exact Sound.pure (G := []) (runX_sound mixed none_sound (dn5ay w (hs w) (hg w) m _) ⟨qm, qh, yes 1 h, by simp [Qst.ok]; omega, qr 4 _ (by omega) lt, trivial⟩) rfl rfl rfl rfl
      · rw [if_neg (fun x => h' x.2)]
        exact Sound.pure (G := []) (runX_sound mixed none_sound (dn5an w (hs w) (hg w) m 0) ⟨qm, qh, yes 1 h, by simp [Qst.ok]; omega, trivial⟩) rfl rfl rfl rfl
    · by_cases h2 : hs w = 2
      · by_cases h' : hg w = m
        · rw [if_pos ⟨.inr h2, h'⟩]
          exact Sound.pure (G := []) (runX_sound mixed none_sound (dn5by w (hs w) (hg w) m _) ⟨qm, qh, no 1 h, yes 2 h2, by simp [Qst.ok]; omega, qr 4 _ (by omega) lt, trivial⟩) rfl rfl rfl rfl
        · rw [if_neg (fun x => h' x.2)]
          exact Sound.pure (G := []) (runX_sound mixed none_sound (dn5bn w (hs w) (hg w) m 0) ⟨qm, qh, no 1 h, yes 2 h2, by simp [Qst.ok]; omega, trivial⟩) rfl rfl rfl rfl
      · rw [if_neg (fun x => by rcases x.1 with x | x <;> omega)]
        exact Sound.pure (G := []) (runX_sound mixed none_sound (dn5n w (hs w) (hg w) m 0) ⟨qm, qh, no 1 h, no 2 h2, trivial⟩) rfl rfl rfl rfl
  · rw [if_neg (by omega), if_neg (by omega), if_neg (by omega), if_neg (by omega), if_neg (by omega), if_pos rfl]
    by_cases h : hs w = 0
    · rw [if_pos h]
      exact Sound.pure (G := []) (runX_sound mixed none_sound (dn6y w (hs w) (hg w) m _) ⟨qm, qh, yes 0 h, qr 3 _ (by omega) lt, trivial⟩) rfl rfl rfl rfl
    · rw [if_neg h]
      exact Sound.pure (G := []) (runX_sound mixed none_sound (dn6n w (hs w) (hg w) m 0) ⟨qm, qh, no 0 h, trivial⟩) rfl rfl rfl rfl
  · rw [if_neg (by omega), if_neg (by omega), if_neg (by omega), if_neg (by omega), if_neg (by omega), if_neg (by omega)]
    by_cases h : hs w = 3
    · rw [if_pos h]
      exact Sound.pure (G := []) (runX_sound mixed none_sound (dn7y w (hs w) (hg w) m _) ⟨qm, qh, yes 3 h, qr 0 _ (by omega) lt, trivial⟩) rfl rfl rfl rfl
    · rw [if_neg h]
      exact Sound.pure (G := []) (runX_sound mixed none_sound (dn7n w (hs w) (hg w) m 0) ⟨qm, qh, no 3 h, trivial⟩) rfl rfl rfl rfl
/-- The first change, from c on, d of them, that makes v of w. -/
def frst (w v m : Nat) : Nat → Nat → Nat
  | 0, _ => 0
  | d + 1, c => if (dF w c m).2 = true ∧ (dF w c m).1 = v then c else frst w v m d (c + 1)
theorem oq_loop (w v m : Nat) (hw : w < 18446744073709551616) (hm : m < 4294967296) : ∀ (d c : Nat), 8 - c = d → 1 ≤ c → c ≤ 8 →
    ((∃ k, 0 < k ∧ frst w v m d c = k ∧ SoundL Tryd.prog [] (.loop (loopAt Tryd.prog 66 0)) (Tq w v m c 0) [] 0 2 .ret (Tq w v m k k) []) ∨ (frst w v m d c = 0 ∧ SoundL Tryd.prog [] (.loop (loopAt Tryd.prog 66 0)) (Tq w v m c 0) [] 0 2 (.exit 0) (Tq w v m 8 0) [])) := by
  intro d
  induction d with
  | zero =>
    intro c hd h1 h8
    have : c = 8 := by omega
    subst this
    refine .inr ⟨rfl, SoundL.stop (SoundL.plain (runX_sound mixed none_sound (oq_end w v m 8 0) ⟨by simp [Qst.ok], trivial⟩) ?_) (by simp)⟩
    unfold Tq
    repeat (first | exact rfl | refine ⟨_, _, rfl, ?_, ?_⟩ | exact .inr ⟨rfl, rfl⟩ | exact .inl ⟨rfl, rfl⟩ | exact see_same _)
  | succ d ih =>
    intro c hd h1 h8
    have q1 : (Qst.val (some (AV.bool (decide (Int.ofNat c ≤ Int.ofNat 7)))) (AV.bool true)).ok Tryd.prog := by simp [Qst.ok]; omega
    have qn : (Qst.val (some (AV.int IntKind.i64 (IntKind.i64.wrap (Int.ofNat c + Int.ofNat 1)))) (AV.int IntKind.i64 (Int.ofNat (c + 1)))).ok Tryd.prog := by
      simp only [Qst.ok]; rw [i64_wrap (by simp only [Int.ofNat_eq_natCast]; omega) (by simp only [Int.ofNat_eq_natCast]; omega)]; rfl
    have qd := fun (s : AS) (_ : hasG s [] = true) => done_call w c m hw hm h1 (by omega) s
    obtain ⟨x, ok, hx⟩ : ∃ x ok, dF w c m = (x, ok) := ⟨_, _, rfl⟩
    rw [hx] at qd
    have nx := ih (c + 1) (by omega) (by omega) (by omega)
    cases ok with
    | false =>
      have e : frst w v m (d + 1) c = frst w v m d (c + 1) := by
        show (if _ then _ else _) = _
        rw [hx, if_neg (by simp)]
      rw [e]
      have step : SoundL Tryd.prog [] (loopAt Tryd.prog 66 0) (Tq w v m c 0) [] 0 2 .normal (Tq w v m (c + 1) 0) [] := by
        refine SoundL.plain (runX_sound mixed none_sound (oq_go0 w v m c x) ⟨q1, qd, qn, trivial⟩) ?_
        unfold Tq
        repeat (first | exact rfl | refine ⟨_, _, rfl, ?_, ?_⟩ | exact .inr ⟨rfl, rfl⟩ | exact .inl ⟨rfl, rfl⟩ | exact see_same _)
      rcases nx with ⟨k, k0, k1, k2⟩ | ⟨k1, k2⟩
      · exact .inl ⟨k, k0, k1, step.next k2⟩
      · exact .inr ⟨k1, step.next k2⟩
    | true =>
      by_cases hv : x = v
      · refine .inl ⟨c, by omega, ?_, SoundL.stop (SoundL.plain (runX_sound mixed none_sound (oq_hit w v m c x) ⟨q1, qd, by simp [Qst.ok, hv], trivial⟩) ?_) (by simp)⟩
        · show (if _ then _ else _) = _
          rw [hx, if_pos ⟨rfl, hv⟩]
        · unfold Tq
          repeat (first | exact rfl | refine ⟨_, _, rfl, ?_, ?_⟩ | exact .inr ⟨rfl, rfl⟩ | exact .inl ⟨rfl, rfl⟩ | exact see_same _)
      · have e : frst w v m (d + 1) c = frst w v m d (c + 1) := by
          show (if _ then _ else _) = _
          rw [hx, if_neg (fun h => hv h.2)]
        rw [e]
        have step : SoundL Tryd.prog [] (loopAt Tryd.prog 66 0) (Tq w v m c 0) [] 0 2 .normal (Tq w v m (c + 1) 0) [] := by
          refine SoundL.plain (runX_sound mixed none_sound (oq_go1 w v m c x) ⟨q1, qd, by simp [Qst.ok]; omega, qn, trivial⟩) ?_
          unfold Tq
          repeat (first | exact rfl | refine ⟨_, _, rfl, ?_, ?_⟩ | exact .inr ⟨rfl, rfl⟩ | exact .inl ⟨rfl, rfl⟩ | exact see_same _)
        rcases nx with ⟨k, k0, k1, k2⟩ | ⟨k1, k2⟩
        · exact .inl ⟨k, k0, k1, step.next k2⟩
        · exact .inr ⟨k1, step.next k2⟩
theorem mkw_eq {s g v m : Nat} (h4 : s ≤ 4) (hg' : g ≤ m) (hm : m < 4294967296) (h5 : s = 4 → g = m) : mkw s g = v ↔ (mayP v m = true ∧ hs v = s ∧ hg v = g) := by
  constructor
  · intro h
    have a := hs_mkw (s := s) (g := g) h4
    have b := hg_mkw (s := s) (g := g) h4 (by omega)
    rw [h] at a b
    refine ⟨?_, a, b⟩
    unfold mayP
    rw [a, b, h]
    simp
    exact ⟨hg', by omega⟩
  · rintro ⟨h, rfl, rfl⟩
    unfold mayP at h
    simp only [Bool.and_eq_true, decide_eq_true_eq] at h
    exact h.1
theorem frst_of (w v m : Nat) (hm : m < 4294967296) : frst w v m 7 1 = ofF w v m := by
  unfold ofF
  by_cases hp : mayP w m = true
  case neg =>
    rw [if_neg (fun h => hp h.1)]
    simp [frst, dF, hp]
  have hle := may_g hp
  have h4 := hs_le w
  have lt := hg_lt w
  have h5 : hs w = 4 → hg w = m := by
    intro h
    unfold mayP at hp
    simp only [Bool.and_eq_true, decide_eq_true_eq, Bool.or_eq_true] at hp
    rcases hp.2.2 with x | x <;> omega
  have cs : hs w = 0 ∨ hs w = 1 ∨ hs w = 2 ∨ hs w = 3 ∨ hs w = 4 := by omega
  simp only [frst, dF, hp, if_true]
  rcases cs with h | h | h | h | h
  · have e1 := mkw_eq (s := 1) (g := hg w) (v := v) (m := m) (by omega) hle hm (by omega)
    have e2 := mkw_eq (s := 3) (g := hg w) (v := v) (m := m) (by omega) hle hm (by omega)
    by_cases hv : mayP v m = true
    · simp [h, e1, e2, hv]
    · simp [h, e1, e2, hv]
  · have e1 := mkw_eq (s := 2) (g := hg w) (v := v) (m := m) (by omega) hle hm (by omega)
    by_cases hr : hg w < m
    · have e2 := mkw_eq (s := 0) (g := hg w + 1) (v := v) (m := m) (by omega) (by omega) hm (by omega)
      have : ¬ hg w = m := by omega
      by_cases hv : mayP v m = true
      · simp [h, e1, e2, hv, hr, this]
      · simp [h, e1, e2, hv, hr, this]
    · have eq : hg w = m := by omega
      have e2 := mkw_eq (s := 4) (g := hg w) (v := v) (m := m) (by omega) hle hm (by omega)
      rw [eq] at e1 e2
      by_cases hv : mayP v m = true
      · simp [h, e1, e2, hv, eq]
      · simp [h, e1, e2, hv, eq]
  · by_cases hr : hg w < m
    · have e2 := mkw_eq (s := 0) (g := hg w + 1) (v := v) (m := m) (by omega) (by omega) hm (by omega)
      have : ¬ hg w = m := by omega
      by_cases hv : mayP v m = true
      · simp [h, e2, hv, hr, this]
      · simp [h, e2, hv, hr, this]
    · have eq : hg w = m := by omega
      have e2 := mkw_eq (s := 4) (g := hg w) (v := v) (m := m) (by omega) hle hm (by omega)
      rw [eq] at e2
      by_cases hv : mayP v m = true
      · simp [h, e2, hv, eq]
      · simp [h, e2, hv, eq]
  · have e1 := mkw_eq (s := 0) (g := hg w) (v := v) (m := m) (by omega) hle hm (by omega)
    by_cases hv : mayP v m = true
    · simp [h, e1, hv]
    · simp [h, e1, hv]
  · simp [h]
theorem rof_call (w v m : Nat) (hw : w < 18446744073709551616) (hm : m < 4294967296) (st : AS) : Sound Tryd.prog (.call 66 [.int .u64 (Int.ofNat w), .int .u64 (Int.ofNat v), .int .u32 (Int.ofNat m)] st) ⟨.ret, [.int .i64 (Int.ofNat (ofF w v m))], st⟩ := by
  rw [← frst_of w v m hm]
  rcases oq_loop w v m hw hm 7 1 rfl (by omega) (by omega) with ⟨k, k0, k1, k2⟩ | ⟨k1, k2⟩
  · rw [k1]
    refine Sound.pure (G := []) (runX_sound mixed none_sound (oq_run1 w v m k) ⟨Sound.enter (k2 none none []) ?_, trivial⟩) rfl rfl rfl rfl
    unfold Tq
    repeat (first | exact rfl | refine ⟨_, _, rfl, ?_, ?_⟩ | exact .inr ⟨rfl, rfl⟩ | exact .inl ⟨rfl, rfl⟩ | exact see_same _)
  · rw [k1]
    refine Sound.pure (G := []) (runX_sound mixed none_sound (oq_run0 w v m 8) ⟨Sound.enter (k2 none none []) ?_, trivial⟩) rfl rfl rfl rfl
    unfold Tq
    repeat (first | exact rfl | refine ⟨_, _, rfl, ?_, ?_⟩ | exact .inr ⟨rfl, rfl⟩ | exact .inl ⟨rfl, rfl⟩ | exact see_same _)
end Go.Proofs.YtipadnlhcnmgaaaDoor.nodesShadow
