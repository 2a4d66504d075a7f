/- The memory of both, as a plain list of words. Conditions: those that each theorem names, and no others. -/
import Derived.Test.YtchekpapgfojhaaGreatDoorBack2
import Derived.Test.YtchekpapgfojhaaGreatDoorMini3
namespace Go.Proofs.YtchekpapgfojhaaGreatDoor.ctlsFallback
open Go Go.Mini
/-! ### how both memories run -/
theorem rooms_0  : runX Tryz.prog none_ 60 98 (.call 98 [i8 0] (startS Tryz.prog [])) [] = some ({ e := .ret, ts := [.agg [ii 1, ii 1]], s := ⟨⟨[], 0, none, []⟩, 4⟩ }, [], []) := by kernel_rfl
theorem rooms_1  : runX Tryz.prog none_ 60 98 (.call 98 [i8 1] (startS Tryz.prog [])) [] = some ({ e := .ret, ts := [.agg [ii 1, ii 1]], s := ⟨⟨[], 0, none, []⟩, 4⟩ }, [], []) := by kernel_rfl
theorem rooms_2  : runX Tryz.prog none_ 60 98 (.call 98 [i8 2] (startS Tryz.prog [])) [] = some ({ e := .ret, ts := [.agg [ii 1, ii 1]], s := ⟨⟨[], 0, none, []⟩, 4⟩ }, [], []) := by kernel_rfl
theorem rooms_3  : runX Tryz.prog none_ 60 98 (.call 98 [i8 3] (startS Tryz.prog [])) [] = some ({ e := .ret, ts := [.agg [ii 1, ii 1]], s := ⟨⟨[], 0, none, []⟩, 4⟩ }, [], []) := by kernel_rfl
theorem rooms_4  : runX Tryz.prog none_ 60 98 (.call 98 [i8 4] (startS Tryz.prog [])) [] = some ({ e := .ret, ts := [.agg [ii 1, ii 1]], s := ⟨⟨[], 0, none, []⟩, 4⟩ }, [], []) := by kernel_rfl
theorem rooms_5  : runX Tryz.prog none_ 60 98 (.call 98 [i8 5] (startS Tryz.prog [])) [] = some ({ e := .ret, ts := [.agg [ii 1, ii 1]], s := ⟨⟨[], 0, none, []⟩, 4⟩ }, [], []) := by kernel_rfl
theorem rooms_6  : runX Tryz.prog none_ 60 98 (.call 98 [i8 6] (startS Tryz.prog [])) [] = some ({ e := .ret, ts := [.agg [ii 32, ii 2]], s := ⟨⟨[], 0, none, []⟩, 4⟩ }, [], []) := by kernel_rfl
theorem rooms_7  : runX Tryz.prog none_ 60 98 (.call 98 [i8 7] (startS Tryz.prog [])) [] = some ({ e := .ret, ts := [.agg [ii 4, ii 1]], s := ⟨⟨[], 0, none, []⟩, 4⟩ }, [], []) := by kernel_rfl
theorem rooms_8  : runX Tryz.prog none_ 60 98 (.call 98 [i8 8] (startS Tryz.prog [])) [] = some ({ e := .ret, ts := [.agg [ii 16, ii 10]], s := ⟨⟨[], 0, none, []⟩, 4⟩ }, [], []) := by kernel_rfl
theorem rooms_9  : runX Tryz.prog none_ 60 98 (.call 98 [i8 9] (startS Tryz.prog [])) [] = some ({ e := .ret, ts := [.agg [ii 256, ii 8]], s := ⟨⟨[], 0, none, []⟩, 4⟩ }, [], []) := by kernel_rfl
theorem rooms_10  : runX Tryz.prog none_ 60 98 (.call 98 [i8 10] (startS Tryz.prog [])) [] = some ({ e := .ret, ts := [.agg [ii 9, ii 1]], s := ⟨⟨[], 0, none, []⟩, 4⟩ }, [], []) := by kernel_rfl
theorem rooms_11  : runX Tryz.prog none_ 60 98 (.call 98 [i8 11] (startS Tryz.prog [])) [] = some ({ e := .ret, ts := [.agg [ii 1, ii 2]], s := ⟨⟨[], 0, none, []⟩, 4⟩ }, [], []) := by kernel_rfl
theorem rooms_n (k : Int) : runX Tryz.prog none_ 60 98 (.call 98 [.int .u8 k] (startS Tryz.prog [])) [.val 98 2 0 (.bool false), .val 98 3 0 (.bool false), .val 98 4 0 (.bool false), .val 98 5 0 (.bool false), .val 98 6 0 (.bool false), .val 98 7 0 (.bool false), .val 98 9 0 (.bool false), .val 98 11 0 (.bool false), .val 98 13 0 (.bool false), .val 98 15 0 (.bool false), .val 98 17 0 (.bool false), .val 98 19 0 (.bool false)] = some ({ e := .ret, ts := [.agg [ii 0, ii 0]], s := ⟨⟨[], 0, none, []⟩, 4⟩ }, [], [Qst.val (some (.bool (k == Int.ofNat 0))) (.bool false), Qst.val (some (.bool (k == Int.ofNat 1))) (.bool false), Qst.val (some (.bool (k == Int.ofNat 2))) (.bool false), Qst.val (some (.bool (k == Int.ofNat 3))) (.bool false), Qst.val (some (.bool (k == Int.ofNat 4))) (.bool false), Qst.val (some (.bool (k == Int.ofNat 5))) (.bool false), Qst.val (some (.bool (k == Int.ofNat 6))) (.bool false), Qst.val (some (.bool (k == Int.ofNat 7))) (.bool false), Qst.val (some (.bool (k == Int.ofNat 8))) (.bool false), Qst.val (some (.bool (k == Int.ofNat 9))) (.bool false), Qst.val (some (.bool (k == Int.ofNat 10))) (.bool false), Qst.val (some (.bool (k == Int.ofNat 11))) (.bool false)]) := by kernel_rfl
theorem pmay_0 (k x y r1 r2 : Int) : runX Tryz.prog none_ 60 78 (.call 78 [.agg [.int .u8 k, .int .i64 x, .int .i64 y]] (startS Tryz.prog [])) [.pure 78 1 2 [] (.agg [.int .i64 r1, .int .i64 r2]), .val 78 2 2 (.bool false)] = some ({ e := .ret, ts := [.bool false], s := ⟨⟨[], 0, none, []⟩, 5⟩ }, [], [Qst.pure [] 98 [.int .u8 k] (.agg [.int .i64 r1, .int .i64 r2]), Qst.val (some (.bool (decide (x ≥ 0)))) (.bool false)]) := by kernel_rfl
theorem rmy_6_0 (x y : Int) : runX Tryz.prog none_ 60 79 (.call 79 [.agg [i8 6, .int .i64 x, .int .i64 y]] (startS Tryz.prog [])) [.val 79 19 6 (.bool false)] = some ({ e := .ret, ts := [.bool false], s := ⟨⟨[], 0, none, []⟩, 4⟩ }, [], [Qst.val (some (.bool (decide (x ≥ 0)))) (.bool false)]) := by kernel_rfl
theorem rmy_7_0 (x y : Int) : runX Tryz.prog none_ 60 79 (.call 79 [.agg [i8 7, .int .i64 x, .int .i64 y]] (startS Tryz.prog [])) [.val 79 19 6 (.bool false)] = some ({ e := .ret, ts := [.bool false], s := ⟨⟨[], 0, none, []⟩, 4⟩ }, [], [Qst.val (some (.bool (decide (x ≥ 0)))) (.bool false)]) := by kernel_rfl
theorem rmy_8_0 (x y : Int) : runX Tryz.prog none_ 60 79 (.call 79 [.agg [i8 8, .int .i64 x, .int .i64 y]] (startS Tryz.prog [])) [.val 79 19 6 (.bool false)] = some ({ e := .ret, ts := [.bool false], s := ⟨⟨[], 0, none, []⟩, 4⟩ }, [], [Qst.val (some (.bool (decide (x ≥ 0)))) (.bool false)]) := by kernel_rfl
theorem rmy_9_0 (x y : Int) : runX Tryz.prog none_ 60 79 (.call 79 [.agg [i8 9, .int .i64 x, .int .i64 y]] (startS Tryz.prog [])) [.val 79 19 6 (.bool false)] = some ({ e := .ret, ts := [.bool false], s := ⟨⟨[], 0, none, []⟩, 4⟩ }, [], [Qst.val (some (.bool (decide (x ≥ 0)))) (.bool false)]) := by kernel_rfl
theorem rmy_10_0 (x y : Int) : runX Tryz.prog none_ 60 79 (.call 79 [.agg [i8 10, .int .i64 x, .int .i64 y]] (startS Tryz.prog [])) [.val 79 19 6 (.bool false)] = some ({ e := .ret, ts := [.bool false], s := ⟨⟨[], 0, none, []⟩, 4⟩ }, [], [Qst.val (some (.bool (decide (x ≥ 0)))) (.bool false)]) := by kernel_rfl
theorem rmy_11_0 (x y : Int) : runX Tryz.prog none_ 60 79 (.call 79 [.agg [i8 11, .int .i64 x, .int .i64 y]] (startS Tryz.prog [])) [.val 79 19 6 (.bool false)] = some ({ e := .ret, ts := [.bool false], s := ⟨⟨[], 0, none, []⟩, 4⟩ }, [], [Qst.val (some (.bool (decide (x ≥ 0)))) (.bool false)]) := by kernel_rfl
theorem rmy_n0 (k x y : Int) : runX Tryz.prog none_ 60 79 (.call 79 [.agg [.int .u8 k, .int .i64 x, .int .i64 y]] (startS Tryz.prog [])) [.val 79 4 0 (.bool false), .val 79 7 0 (.bool false), .val 79 9 0 (.bool false), .val 79 12 0 (.bool false), .val 79 15 0 (.bool false), .val 79 17 0 (.bool false), .val 79 19 2 (.bool true), .val 79 19 6 (.bool false)] = some ({ e := .ret, ts := [.bool false], s := ⟨⟨[], 0, none, []⟩, 4⟩ }, [], [Qst.val (some (.bool (k == Int.ofNat 6))) (.bool false), Qst.val (some (.bool (k == Int.ofNat 7))) (.bool false), Qst.val (some (.bool (k == Int.ofNat 8))) (.bool false), Qst.val (some (.bool (k == Int.ofNat 9))) (.bool false), Qst.val (some (.bool (k == Int.ofNat 10))) (.bool false), Qst.val (some (.bool (k == Int.ofNat 11))) (.bool false), Qst.val (some (.bool (decide (k ≤ 11)))) (.bool true), Qst.val (some (.bool (decide (x ≥ 0)))) (.bool false)]) := by kernel_rfl
theorem pmay_1 (k x y r1 r2 : Int) : runX Tryz.prog none_ 60 78 (.call 78 [.agg [.int .u8 k, .int .i64 x, .int .i64 y]] (startS Tryz.prog [])) [.pure 78 1 2 [] (.agg [.int .i64 r1, .int .i64 r2]), .val 78 2 2 (.bool true), .val 78 2 8 (.bool false)] = some ({ e := .ret, ts := [.bool false], s := ⟨⟨[], 0, none, []⟩, 5⟩ }, [], [Qst.pure [] 98 [.int .u8 k] (.agg [.int .i64 r1, .int .i64 r2]), Qst.val (some (.bool (decide (x ≥ 0)))) (.bool true), Qst.val (some (.bool (decide (x < r1)))) (.bool false)]) := by kernel_rfl
theorem rmy_6_1 (x y : Int) : runX Tryz.prog none_ 60 79 (.call 79 [.agg [i8 6, .int .i64 x, .int .i64 y]] (startS Tryz.prog [])) [.val 79 19 6 (.bool true), .val 79 19 12 (.bool false)] = some ({ e := .ret, ts := [.bool false], s := ⟨⟨[], 0, none, []⟩, 4⟩ }, [], [Qst.val (some (.bool (decide (x ≥ 0)))) (.bool true), Qst.val (some (.bool (decide (x < 32)))) (.bool false)]) := by kernel_rfl
theorem rmy_7_1 (x y : Int) : runX Tryz.prog none_ 60 79 (.call 79 [.agg [i8 7, .int .i64 x, .int .i64 y]] (startS Tryz.prog [])) [.val 79 19 6 (.bool true), .val 79 19 12 (.bool false)] = some ({ e := .ret, ts := [.bool false], s := ⟨⟨[], 0, none, []⟩, 4⟩ }, [], [Qst.val (some (.bool (decide (x ≥ 0)))) (.bool true), Qst.val (some (.bool (decide (x < 4)))) (.bool false)]) := by kernel_rfl
theorem rmy_8_1 (x y : Int) : runX Tryz.prog none_ 60 79 (.call 79 [.agg [i8 8, .int .i64 x, .int .i64 y]] (startS Tryz.prog [])) [.val 79 19 6 (.bool true), .val 79 19 12 (.bool false)] = some ({ e := .ret, ts := [.bool false], s := ⟨⟨[], 0, none, []⟩, 4⟩ }, [], [Qst.val (some (.bool (decide (x ≥ 0)))) (.bool true), Qst.val (some (.bool (decide (x < 16)))) (.bool false)]) := by kernel_rfl
theorem rmy_9_1 (x y : Int) : runX Tryz.prog none_ 60 79 (.call 79 [.agg [i8 9, .int .i64 x, .int .i64 y]] (startS Tryz.prog [])) [.val 79 19 6 (.bool true), .val 79 19 12 (.bool false)] = some ({ e := .ret, ts := [.bool false], s := ⟨⟨[], 0, none, []⟩, 4⟩ }, [], [Qst.val (some (.bool (decide (x ≥ 0)))) (.bool true), Qst.val (some (.bool (decide (x < 256)))) (.bool false)]) := by kernel_rfl
theorem rmy_10_1 (x y : Int) : runX Tryz.prog none_ 60 79 (.call 79 [.agg [i8 10, .int .i64 x, .int .i64 y]] (startS Tryz.prog [])) [.val 79 19 6 (.bool true), .val 79 19 12 (.bool false)] = some ({ e := .ret, ts := [.bool false], s := ⟨⟨[], 0, none, []⟩, 4⟩ }, [], [Qst.val (some (.bool (decide (x ≥ 0)))) (.bool true), Qst.val (some (.bool (decide (x < 9)))) (.bool false)]) := by kernel_rfl
theorem rmy_11_1 (x y : Int) : runX Tryz.prog none_ 60 79 (.call 79 [.agg [i8 11, .int .i64 x, .int .i64 y]] (startS Tryz.prog [])) [.val 79 19 6 (.bool true), .val 79 19 12 (.bool false)] = some ({ e := .ret, ts := [.bool false], s := ⟨⟨[], 0, none, []⟩, 4⟩ }, [], [Qst.val (some (.bool (decide (x ≥ 0)))) (.bool true), Qst.val (some (.bool (decide (x < 1)))) (.bool false)]) := by kernel_rfl
theorem rmy_n1 (k x y : Int) : runX Tryz.prog none_ 60 79 (.call 79 [.agg [.int .u8 k, .int .i64 x, .int .i64 y]] (startS Tryz.prog [])) [.val 79 4 0 (.bool false), .val 79 7 0 (.bool false), .val 79 9 0 (.bool false), .val 79 12 0 (.bool false), .val 79 15 0 (.bool false), .val 79 17 0 (.bool false), .val 79 19 2 (.bool true), .val 79 19 6 (.bool true), .val 79 19 12 (.bool false)] = some ({ e := .ret, ts := [.bool false], s := ⟨⟨[], 0, none, []⟩, 4⟩ }, [], [Qst.val (some (.bool (k == Int.ofNat 6))) (.bool false), Qst.val (some (.bool (k == Int.ofNat 7))) (.bool false), Qst.val (some (.bool (k == Int.ofNat 8))) (.bool false), Qst.val (some (.bool (k == Int.ofNat 9))) (.bool false), Qst.val (some (.bool (k == Int.ofNat 10))) (.bool false), Qst.val (some (.bool (k == Int.ofNat 11))) (.bool false), Qst.val (some (.bool (decide (k ≤ 11)))) (.bool true), Qst.val (some (.bool (decide (x ≥ 0)))) (.bool true), Qst.val (some (.bool (decide (x < 1)))) (.bool false)]) := by kernel_rfl
theorem pmay_2 (k x y r1 r2 : Int) : runX Tryz.prog none_ 60 78 (.call 78 [.agg [.int .u8 k, .int .i64 x, .int .i64 y]] (startS Tryz.prog [])) [.pure 78 1 2 [] (.agg [.int .i64 r1, .int .i64 r2]), .val 78 2 2 (.bool true), .val 78 2 8 (.bool true), .val 78 2 13 (.bool false)] = some ({ e := .ret, ts := [.bool false], s := ⟨⟨[], 0, none, []⟩, 5⟩ }, [], [Qst.pure [] 98 [.int .u8 k] (.agg [.int .i64 r1, .int .i64 r2]), Qst.val (some (.bool (decide (x ≥ 0)))) (.bool true), Qst.val (some (.bool (decide (x < r1)))) (.bool true), Qst.val (some (.bool (decide (y ≥ 0)))) (.bool false)]) := by kernel_rfl
theorem rmy_6_2 (x y : Int) : runX Tryz.prog none_ 60 79 (.call 79 [.agg [i8 6, .int .i64 x, .int .i64 y]] (startS Tryz.prog [])) [.val 79 19 6 (.bool true), .val 79 19 12 (.bool true), .val 79 19 17 (.bool false)] = some ({ e := .ret, ts := [.bool false], s := ⟨⟨[], 0, none, []⟩, 4⟩ }, [], [Qst.val (some (.bool (decide (x ≥ 0)))) (.bool true), Qst.val (some (.bool (decide (x < 32)))) (.bool true), Qst.val (some (.bool (decide (y ≥ 0)))) (.bool false)]) := by kernel_rfl
theorem rmy_7_2 (x y : Int) : runX Tryz.prog none_ 60 79 (.call 79 [.agg [i8 7, .int .i64 x, .int .i64 y]] (startS Tryz.prog [])) [.val 79 19 6 (.bool true), .val 79 19 12 (.bool true), .val 79 19 17 (.bool false)] = some ({ e := .ret, ts := [.bool false], s := ⟨⟨[], 0, none, []⟩, 4⟩ }, [], [Qst.val (some (.bool (decide (x ≥ 0)))) (.bool true), Qst.val (some (.bool (decide (x < 4)))) (.bool true), Qst.val (some (.bool (decide (y ≥ 0)))) (.bool false)]) := by kernel_rfl
theorem rmy_8_2 (x y : Int) : runX Tryz.prog none_ 60 79 (.call 79 [.agg [i8 8, .int .i64 x, .int .i64 y]] (startS Tryz.prog [])) [.val 79 19 6 (.bool true), .val 79 19 12 (.bool true), .val 79 19 17 (.bool false)] = some ({ e := .ret, ts := [.bool false], s := ⟨⟨[], 0, none, []⟩, 4⟩ }, [], [Qst.val (some (.bool (decide (x ≥ 0)))) (.bool true), Qst.val (some (.bool (decide (x < 16)))) (.bool true), Qst.val (some (.bool (decide (y ≥ 0)))) (.bool false)]) := by kernel_rfl
theorem rmy_9_2 (x y : Int) : runX Tryz.prog none_ 60 79 (.call 79 [.agg [i8 9, .int .i64 x, .int .i64 y]] (startS Tryz.prog [])) [.val 79 19 6 (.bool true), .val 79 19 12 (.bool true), .val 79 19 17 (.bool false)] = some ({ e := .ret, ts := [.bool false], s := ⟨⟨[], 0, none, []⟩, 4⟩ }, [], [Qst.val (some (.bool (decide (x ≥ 0)))) (.bool true), Qst.val (some (.bool (decide (x < 256)))) (.bool true), Qst.val (some (.bool (decide (y ≥ 0)))) (.bool false)]) := by kernel_rfl
theorem rmy_10_2 (x y : Int) : runX Tryz.prog none_ 60 79 (.call 79 [.agg [i8 10, .int .i64 x, .int .i64 y]] (startS Tryz.prog [])) [.val 79 19 6 (.bool true), .val 79 19 12 (.bool true), .val 79 19 17 (.bool false)] = some ({ e := .ret, ts := [.bool false], s := ⟨⟨[], 0, none, []⟩, 4⟩ }, [], [Qst.val (some (.bool (decide (x ≥ 0)))) (.bool true), Qst.val (some (.bool (decide (x < 9)))) (.bool true), Qst.val (some (.bool (decide (y ≥ 0)))) (.bool false)]) := by kernel_rfl
theorem rmy_11_2 (x y : Int) : runX Tryz.prog none_ 60 79 (.call 79 [.agg [i8 11, .int .i64 x, .int .i64 y]] (startS Tryz.prog [])) [.val 79 19 6 (.bool true), .val 79 19 12 (.bool true), .val 79 19 17 (.bool false)] = some ({ e := .ret, ts := [.bool false], s := ⟨⟨[], 0, none, []⟩, 4⟩ }, [], [Qst.val (some (.bool (decide (x ≥ 0)))) (.bool true), Qst.val (some (.bool (decide (x < 1)))) (.bool true), Qst.val (some (.bool (decide (y ≥ 0)))) (.bool false)]) := by kernel_rfl
theorem rmy_n2 (k x y : Int) : runX Tryz.prog none_ 60 79 (.call 79 [.agg [.int .u8 k, .int .i64 x, .int .i64 y]] (startS Tryz.prog [])) [.val 79 4 0 (.bool false), .val 79 7 0 (.bool false), .val 79 9 0 (.bool false), .val 79 12 0 (.bool false), .val 79 15 0 (.bool false), .val 79 17 0 (.bool false), .val 79 19 2 (.bool true), .val 79 19 6 (.bool true), .val 79 19 12 (.bool true), .val 79 19 17 (.bool false)] = some ({ e := .ret, ts := [.bool false], s := ⟨⟨[], 0, none, []⟩, 4⟩ }, [], [Qst.val (some (.bool (k == Int.ofNat 6))) (.bool false), Qst.val (some (.bool (k == Int.ofNat 7))) (.bool false), Qst.val (some (.bool (k == Int.ofNat 8))) (.bool false), Qst.val (some (.bool (k == Int.ofNat 9))) (.bool false), Qst.val (some (.bool (k == Int.ofNat 10))) (.bool false), Qst.val (some (.bool (k == Int.ofNat 11))) (.bool false), Qst.val (some (.bool (decide (k ≤ 11)))) (.bool true), Qst.val (some (.bool (decide (x ≥ 0)))) (.bool true), Qst.val (some (.bool (decide (x < 1)))) (.bool true), Qst.val (some (.bool (decide (y ≥ 0)))) (.bool false)]) := by kernel_rfl
theorem pmay_3 (k x y r1 r2 : Int) : runX Tryz.prog none_ 60 78 (.call 78 [.agg [.int .u8 k, .int .i64 x, .int .i64 y]] (startS Tryz.prog [])) [.pure 78 1 2 [] (.agg [.int .i64 r1, .int .i64 r2]), .val 78 2 2 (.bool true), .val 78 2 8 (.bool true), .val 78 2 13 (.bool true), .val 78 2 20 (.bool false)] = some ({ e := .ret, ts := [.bool false], s := ⟨⟨[], 0, none, []⟩, 5⟩ }, [], [Qst.pure [] 98 [.int .u8 k] (.agg [.int .i64 r1, .int .i64 r2]), Qst.val (some (.bool (decide (x ≥ 0)))) (.bool true), Qst.val (some (.bool (decide (x < r1)))) (.bool true), Qst.val (some (.bool (decide (y ≥ 0)))) (.bool true), Qst.val (some (.bool (decide (y < r2)))) (.bool false)]) := by kernel_rfl
theorem rmy_6_3 (x y : Int) : runX Tryz.prog none_ 60 79 (.call 79 [.agg [i8 6, .int .i64 x, .int .i64 y]] (startS Tryz.prog [])) [.val 79 19 6 (.bool true), .val 79 19 12 (.bool true), .val 79 19 17 (.bool true), .val 79 19 23 (.bool false)] = some ({ e := .ret, ts := [.bool false], s := ⟨⟨[], 0, none, []⟩, 4⟩ }, [], [Qst.val (some (.bool (decide (x ≥ 0)))) (.bool true), Qst.val (some (.bool (decide (x < 32)))) (.bool true), Qst.val (some (.bool (decide (y ≥ 0)))) (.bool true), Qst.val (some (.bool (decide (y < 2)))) (.bool false)]) := by kernel_rfl
theorem rmy_7_3 (x y : Int) : runX Tryz.prog none_ 60 79 (.call 79 [.agg [i8 7, .int .i64 x, .int .i64 y]] (startS Tryz.prog [])) [.val 79 19 6 (.bool true), .val 79 19 12 (.bool true), .val 79 19 17 (.bool true), .val 79 19 23 (.bool false)] = some ({ e := .ret, ts := [.bool false], s := ⟨⟨[], 0, none, []⟩, 4⟩ }, [], [Qst.val (some (.bool (decide (x ≥ 0)))) (.bool true), Qst.val (some (.bool (decide (x < 4)))) (.bool true), Qst.val (some (.bool (decide (y ≥ 0)))) (.bool true), Qst.val (some (.bool (decide (y < 1)))) (.bool false)]) := by kernel_rfl
theorem rmy_8_3 (x y : Int) : runX Tryz.prog none_ 60 79 (.call 79 [.agg [i8 8, .int .i64 x, .int .i64 y]] (startS Tryz.prog [])) [.val 79 19 6 (.bool true), .val 79 19 12 (.bool true), .val 79 19 17 (.bool true), .val 79 19 23 (.bool false)] = some ({ e := .ret, ts := [.bool false], s := ⟨⟨[], 0, none, []⟩, 4⟩ }, [], [Qst.val (some (.bool (decide (x ≥ 0)))) (.bool true), Qst.val (some (.bool (decide (x < 16)))) (.bool true), Qst.val (some (.bool (decide (y ≥ 0)))) (.bool true), Qst.val (some (.bool (decide (y < 10)))) (.bool false)]) := by kernel_rfl
theorem rmy_9_3 (x y : Int) : runX Tryz.prog none_ 60 79 (.call 79 [.agg [i8 9, .int .i64 x, .int .i64 y]] (startS Tryz.prog [])) [.val 79 19 6 (.bool true), .val 79 19 12 (.bool true), .val 79 19 17 (.bool true), .val 79 19 23 (.bool false)] = some ({ e := .ret, ts := [.bool false], s := ⟨⟨[], 0, none, []⟩, 4⟩ }, [], [Qst.val (some (.bool (decide (x ≥ 0)))) (.bool true), Qst.val (some (.bool (decide (x < 256)))) (.bool true), Qst.val (some (.bool (decide (y ≥ 0)))) (.bool true), Qst.val (some (.bool (decide (y < 8)))) (.bool false)]) := by kernel_rfl
theorem rmy_10_3 (x y : Int) : runX Tryz.prog none_ 60 79 (.call 79 [.agg [i8 10, .int .i64 x, .int .i64 y]] (startS Tryz.prog [])) [.val 79 19 6 (.bool true), .val 79 19 12 (.bool true), .val 79 19 17 (.bool true), .val 79 19 23 (.bool false)] = some ({ e := .ret, ts := [.bool false], s := ⟨⟨[], 0, none, []⟩, 4⟩ }, [], [Qst.val (some (.bool (decide (x ≥ 0)))) (.bool true), Qst.val (some (.bool (decide (x < 9)))) (.bool true), Qst.val (some (.bool (decide (y ≥ 0)))) (.bool true), Qst.val (some (.bool (decide (y < 1)))) (.bool false)]) := by kernel_rfl
theorem rmy_11_3 (x y : Int) : runX Tryz.prog none_ 60 79 (.call 79 [.agg [i8 11, .int .i64 x, .int .i64 y]] (startS Tryz.prog [])) [.val 79 19 6 (.bool true), .val 79 19 12 (.bool true), .val 79 19 17 (.bool true), .val 79 19 23 (.bool false)] = some ({ e := .ret, ts := [.bool false], s := ⟨⟨[], 0, none, []⟩, 4⟩ }, [], [Qst.val (some (.bool (decide (x ≥ 0)))) (.bool true), Qst.val (some (.bool (decide (x < 1)))) (.bool true), Qst.val (some (.bool (decide (y ≥ 0)))) (.bool true), Qst.val (some (.bool (decide (y < 2)))) (.bool false)]) := by kernel_rfl
theorem rmy_n3 (k x y : Int) : runX Tryz.prog none_ 60 79 (.call 79 [.agg [.int .u8 k, .int .i64 x, .int .i64 y]] (startS Tryz.prog [])) [.val 79 4 0 (.bool false), .val 79 7 0 (.bool false), .val 79 9 0 (.bool false), .val 79 12 0 (.bool false), .val 79 15 0 (.bool false), .val 79 17 0 (.bool false), .val 79 19 2 (.bool true), .val 79 19 6 (.bool true), .val 79 19 12 (.bool true), .val 79 19 17 (.bool true), .val 79 19 23 (.bool false)] = some ({ e := .ret, ts := [.bool false], s := ⟨⟨[], 0, none, []⟩, 4⟩ }, [], [Qst.val (some (.bool (k == Int.ofNat 6))) (.bool false), Qst.val (some (.bool (k == Int.ofNat 7))) (.bool false), Qst.val (some (.bool (k == Int.ofNat 8))) (.bool false), Qst.val (some (.bool (k == Int.ofNat 9))) (.bool false), Qst.val (some (.bool (k == Int.ofNat 10))) (.bool false), Qst.val (some (.bool (k == Int.ofNat 11))) (.bool false), Qst.val (some (.bool (decide (k ≤ 11)))) (.bool true), Qst.val (some (.bool (decide (x ≥ 0)))) (.bool true), Qst.val (some (.bool (decide (x < 1)))) (.bool true), Qst.val (some (.bool (decide (y ≥ 0)))) (.bool true), Qst.val (some (.bool (decide (y < 1)))) (.bool false)]) := by kernel_rfl
theorem pmay_4 (k x y r1 r2 : Int) : runX Tryz.prog none_ 60 78 (.call 78 [.agg [.int .u8 k, .int .i64 x, .int .i64 y]] (startS Tryz.prog [])) [.pure 78 1 2 [] (.agg [.int .i64 r1, .int .i64 r2]), .val 78 2 2 (.bool true), .val 78 2 8 (.bool true), .val 78 2 13 (.bool true), .val 78 2 20 (.bool true)] = some ({ e := .ret, ts := [.bool true], s := ⟨⟨[], 0, none, []⟩, 5⟩ }, [], [Qst.pure [] 98 [.int .u8 k] (.agg [.int .i64 r1, .int .i64 r2]), Qst.val (some (.bool (decide (x ≥ 0)))) (.bool true), Qst.val (some (.bool (decide (x < r1)))) (.bool true), Qst.val (some (.bool (decide (y ≥ 0)))) (.bool true), Qst.val (some (.bool (decide (y < r2)))) (.bool true)]) := by kernel_rfl
theorem rmy_6_4 (x y : Int) : runX Tryz.prog none_ 60 79 (.call 79 [.agg [i8 6, .int .i64 x, .int .i64 y]] (startS Tryz.prog [])) [.val 79 19 6 (.bool true), .val 79 19 12 (.bool true), .val 79 19 17 (.bool true), .val 79 19 23 (.bool true)] = some ({ e := .ret, ts := [.bool true], s := ⟨⟨[], 0, none, []⟩, 4⟩ }, [], [Qst.val (some (.bool (decide (x ≥ 0)))) (.bool true), Qst.val (some (.bool (decide (x < 32)))) (.bool true), Qst.val (some (.bool (decide (y ≥ 0)))) (.bool true), Qst.val (some (.bool (decide (y < 2)))) (.bool true)]) := by kernel_rfl
theorem rmy_7_4 (x y : Int) : runX Tryz.prog none_ 60 79 (.call 79 [.agg [i8 7, .int .i64 x, .int .i64 y]] (startS Tryz.prog [])) [.val 79 19 6 (.bool true), .val 79 19 12 (.bool true), .val 79 19 17 (.bool true), .val 79 19 23 (.bool true)] = some ({ e := .ret, ts := [.bool true], s := ⟨⟨[], 0, none, []⟩, 4⟩ }, [], [Qst.val (some (.bool (decide (x ≥ 0)))) (.bool true), Qst.val (some (.bool (decide (x < 4)))) (.bool true), Qst.val (some (.bool (decide (y ≥ 0)))) (.bool true), Qst.val (some (.bool (decide (y < 1)))) (.bool true)]) := by kernel_rfl
theorem rmy_8_4 (x y : Int) : runX Tryz.prog none_ 60 79 (.call 79 [.agg [i8 8, .int .i64 x, .int .i64 y]] (startS Tryz.prog [])) [.val 79 19 6 (.bool true), .val 79 19 12 (.bool true), .val 79 19 17 (.bool true), .val 79 19 23 (.bool true)] = some ({ e := .ret, ts := [.bool true], s := ⟨⟨[], 0, none, []⟩, 4⟩ }, [], [Qst.val (some (.bool (decide (x ≥ 0)))) (.bool true), Qst.val (some (.bool (decide (x < 16)))) (.bool true), Qst.val (some (.bool (decide (y ≥ 0)))) (.bool true), Qst.val (some (.bool (decide (y < 10)))) (.bool true)]) := by kernel_rfl
theorem rmy_9_4 (x y : Int) : runX Tryz.prog none_ 60 79 (.call 79 [.agg [i8 9, .int .i64 x, .int .i64 y]] (startS Tryz.prog [])) [.val 79 19 6 (.bool true), .val 79 19 12 (.bool true), .val 79 19 17 (.bool true), .val 79 19 23 (.bool true)] = some ({ e := .ret, ts := [.bool true], s := ⟨⟨[], 0, none, []⟩, 4⟩ }, [], [Qst.val (some (.bool (decide (x ≥ 0)))) (.bool true), Qst.val (some (.bool (decide (x < 256)))) (.bool true), Qst.val (some (.bool (decide (y ≥ 0)))) (.bool true), Qst.val (some (.bool (decide (y < 8)))) (.bool true)]) := by kernel_rfl
theorem rmy_10_4 (x y : Int) : runX Tryz.prog none_ 60 79 (.call 79 [.agg [i8 10, .int .i64 x, .int .i64 y]] (startS Tryz.prog [])) [.val 79 19 6 (.bool true), .val 79 19 12 (.bool true), .val 79 19 17 (.bool true), .val 79 19 23 (.bool true)] = some ({ e := .ret, ts := [.bool true], s := ⟨⟨[], 0, none, []⟩, 4⟩ }, [], [Qst.val (some (.bool (decide (x ≥ 0)))) (.bool true), Qst.val (some (.bool (decide (x < 9)))) (.bool true), Qst.val (some (.bool (decide (y ≥ 0)))) (.bool true), Qst.val (some (.bool (decide (y < 1)))) (.bool true)]) := by kernel_rfl
theorem rmy_11_4 (x y : Int) : runX Tryz.prog none_ 60 79 (.call 79 [.agg [i8 11, .int .i64 x, .int .i64 y]] (startS Tryz.prog [])) [.val 79 19 6 (.bool true), .val 79 19 12 (.bool true), .val 79 19 17 (.bool true), .val 79 19 23 (.bool true)] = some ({ e := .ret, ts := [.bool true], s := ⟨⟨[], 0, none, []⟩, 4⟩ }, [], [Qst.val (some (.bool (decide (x ≥ 0)))) (.bool true), Qst.val (some (.bool (decide (x < 1)))) (.bool true), Qst.val (some (.bool (decide (y ≥ 0)))) (.bool true), Qst.val (some (.bool (decide (y < 2)))) (.bool true)]) := by kernel_rfl
theorem rmy_n4 (k x y : Int) : runX Tryz.prog none_ 60 79 (.call 79 [.agg [.int .u8 k, .int .i64 x, .int .i64 y]] (startS Tryz.prog [])) [.val 79 4 0 (.bool false), .val 79 7 0 (.bool false), .val 79 9 0 (.bool false), .val 79 12 0 (.bool false), .val 79 15 0 (.bool false), .val 79 17 0 (.bool false), .val 79 19 2 (.bool true), .val 79 19 6 (.bool true), .val 79 19 12 (.bool true), .val 79 19 17 (.bool true), .val 79 19 23 (.bool true)] = some ({ e := .ret, ts := [.bool true], s := ⟨⟨[], 0, none, []⟩, 4⟩ }, [], [Qst.val (some (.bool (k == Int.ofNat 6))) (.bool false), Qst.val (some (.bool (k == Int.ofNat 7))) (.bool false), Qst.val (some (.bool (k == Int.ofNat 8))) (.bool false), Qst.val (some (.bool (k == Int.ofNat 9))) (.bool false), Qst.val (some (.bool (k == Int.ofNat 10))) (.bool false), Qst.val (some (.bool (k == Int.ofNat 11))) (.bool false), Qst.val (some (.bool (decide (k ≤ 11)))) (.bool true), Qst.val (some (.bool (decide (x ≥ 0)))) (.bool true), Qst.val (some (.bool (decide (x < 1)))) (.bool true), Qst.val (some (.bool (decide (y ≥ 0)))) (.bool true), Qst.val (some (.bool (decide (y < 1)))) (.bool true)]) := by kernel_rfl
theorem rmy_o (k x y : Int) : runX Tryz.prog none_ 60 79 (.call 79 [.agg [.int .u8 k, .int .i64 x, .int .i64 y]] (startS Tryz.prog [])) [.val 79 4 0 (.bool false), .val 79 7 0 (.bool false), .val 79 9 0 (.bool false), .val 79 12 0 (.bool false), .val 79 15 0 (.bool false), .val 79 17 0 (.bool false), .val 79 19 2 (.bool false)] = some ({ e := .ret, ts := [.bool false], s := ⟨⟨[], 0, none, []⟩, 4⟩ }, [], [Qst.val (some (.bool (k == Int.ofNat 6))) (.bool false), Qst.val (some (.bool (k == Int.ofNat 7))) (.bool false), Qst.val (some (.bool (k == Int.ofNat 8))) (.bool false), Qst.val (some (.bool (k == Int.ofNat 9))) (.bool false), Qst.val (some (.bool (k == Int.ofNat 10))) (.bool false), Qst.val (some (.bool (k == Int.ofNat 11))) (.bool false), Qst.val (some (.bool (decide (k ≤ 11)))) (.bool false)]) := by kernel_rfl
theorem pload (k x y st : Int) (l0 l1 l2 l3 l4 l5 l6 : AV) (om _ _ : AObj) (v _ _ _ : Nat) : runX Tryz.prog none_ 60 44 (.call 44 [.ptr 4 0, .agg [.int .u8 k, .int .i64 x, .int .i64 y]] ⟨⟨[(4, .cells false [.map 5, .int .i64 st, l0, l1, l2, l3, l4, l5, l6]), (5, om)], 2, none, []⟩, 6⟩) [.val 47 4 5 (iw v)] = some ({ e := .ret, ts := [iw v], s := ⟨⟨[(4, .cells false [.map 5, .int .i64 (IntKind.i64.wrap (st + Int.ofNat 1)), i8 1, .int .u8 k, .int .i64 x, .int .i64 y, iw v, iw v, .bool false]), (5, om)], 2, none, [4, 4]⟩, 9⟩ }, [], [Qst.lk 90 ⟨⟨[(8, .cells false [i8 0, i8 0, ii 0, ii 0, iw 0, iw 0, .bool false]), (7, .cells false [.int .u8 k, .int .i64 x, .int .i64 y]), (6, .cells false [.int .u8 k, .int .i64 x, .int .i64 y]), (4, .cells false [.map 5, .int .i64 (IntKind.i64.wrap (st + Int.ofNat 1)), l0, l1, l2, l3, l4, l5, l6]), (5, om)], 5, none, [4]⟩, 9⟩ (.map 5) (.agg [.int .u8 k, .int .i64 x, .int .i64 y]) false (iw v)]) := by kernel_rfl
theorem pstore_n (k x y st : Int) (l0 l1 l2 l3 l4 l5 l6 : AV) (om _ _ : AObj) (v u _ _ : Nat) : runX Tryz.prog none_ 60 29 (.call 29 [.ptr 4 0, .agg [.int .u8 k, .int .i64 x, .int .i64 y], iw u] ⟨⟨[(4, .cells false [.map 5, .int .i64 st, l0, l1, l2, l3, l4, l5, l6]), (5, om)], 2, none, []⟩, 6⟩) [.val 47 4 5 (iw v), .pure 47 7 3 [] (.bool false)] = some ({ e := .ret, ts := [ud], s := ⟨⟨[(4, .cells false [.map 5, .int .i64 (IntKind.i64.wrap (st + Int.ofNat 1)), i8 2, .int .u8 k, .int .i64 x, .int .i64 y, iw v, iw v, .bool false]), (5, om)], 2, none, [4, 4]⟩, 10⟩ }, [], [Qst.lk 90 ⟨⟨[(9, .cells false [i8 0, i8 0, ii 0, ii 0, iw 0, iw 0, .bool false]), (8, .cells false [.int .u8 k, .int .i64 x, .int .i64 y]), (7, .cells false [iw u]), (6, .cells false [.int .u8 k, .int .i64 x, .int .i64 y]), (4, .cells false [.map 5, .int .i64 (IntKind.i64.wrap (st + Int.ofNat 1)), l0, l1, l2, l3, l4, l5, l6]), (5, om)], 6, none, [4]⟩, 10⟩ (.map 5) (.agg [.int .u8 k, .int .i64 x, .int .i64 y]) false (iw v), Qst.pure [] 78 [.agg [.int .u8 k, .int .i64 x, .int .i64 y]] (.bool false)]) := by kernel_rfl
theorem pstore_y (k x y st : Int) (l0 l1 l2 l3 l4 l5 l6 : AV) (om om2 om3 : AObj) (v u z n : Nat) : runX Tryz.prog none_ 60 29 (.call 29 [.ptr 4 0, .agg [.int .u8 k, .int .i64 x, .int .i64 y], iw u] ⟨⟨[(4, .cells false [.map 5, .int .i64 st, l0, l1, l2, l3, l4, l5, l6]), (5, om)], 2, none, []⟩, 6⟩) [.val 47 4 5 (iw v), .pure 47 7 3 [] (.bool true), .eff 47 8 11 (.tuple [iw z, ii n]) (fun s => s.set 5 om2), .eff 47 8 13 ud (fun s => s.set 5 om3)] = some ({ e := .ret, ts := [ud], s := ⟨⟨[(4, .cells false [.map 5, .int .i64 (IntKind.i64.wrap (st + Int.ofNat 1)), i8 2, .int .u8 k, .int .i64 x, .int .i64 y, iw v, iw u, .bool false]), (5, om3)], 2, none, [4, 4, 5, 5, 4, 4]⟩, 10⟩ }, [], [Qst.lk 90 ⟨⟨[(9, .cells false [i8 0, i8 0, ii 0, ii 0, iw 0, iw 0, .bool false]), (8, .cells false [.int .u8 k, .int .i64 x, .int .i64 y]), (7, .cells false [iw u]), (6, .cells false [.int .u8 k, .int .i64 x, .int .i64 y]), (4, .cells false [.map 5, .int .i64 (IntKind.i64.wrap (st + Int.ofNat 1)), l0, l1, l2, l3, l4, l5, l6]), (5, om)], 6, none, [4]⟩, 10⟩ (.map 5) (.agg [.int .u8 k, .int .i64 x, .int .i64 y]) false (iw v), Qst.pure [] 78 [.agg [.int .u8 k, .int .i64 x, .int .i64 y]] (.bool true), Qst.ent ⟨⟨[(9, .cells false [i8 0, i8 0, ii 0, ii 0, iw 0, iw 0, .bool false]), (8, .cells false [.int .u8 k, .int .i64 x, .int .i64 y]), (7, .cells false [iw u]), (6, .cells false [.int .u8 k, .int .i64 x, .int .i64 y]), (4, .cells false [.map 5, .int .i64 (IntKind.i64.wrap (st + Int.ofNat 1)), i8 2, .int .u8 k, .int .i64 x, .int .i64 y, iw v, iw v, .bool false]), (5, om)], 6, none, [4, 4]⟩, 10⟩ 90 (.map 5) (.agg [.int .u8 k, .int .i64 x, .int .i64 y]) (.tuple [iw z, ii n]) ⟨⟨[(9, .cells false [i8 0, i8 0, ii 0, ii 0, iw 0, iw 0, .bool false]), (8, .cells false [.int .u8 k, .int .i64 x, .int .i64 y]), (7, .cells false [iw u]), (6, .cells false [.int .u8 k, .int .i64 x, .int .i64 y]), (4, .cells false [.map 5, .int .i64 (IntKind.i64.wrap (st + Int.ofNat 1)), i8 2, .int .u8 k, .int .i64 x, .int .i64 y, iw v, iw v, .bool false]), (5, om2)], 6, none, [5, 4, 4]⟩, 10⟩, Qst.est ⟨⟨[(9, .cells false [i8 0, i8 0, ii 0, ii 0, iw 0, iw 0, .bool false]), (8, .cells false [.int .u8 k, .int .i64 x, .int .i64 y]), (7, .cells false [iw u]), (6, .cells false [.int .u8 k, .int .i64 x, .int .i64 y]), (4, .cells false [.map 5, .int .i64 (IntKind.i64.wrap (st + Int.ofNat 1)), i8 2, .int .u8 k, .int .i64 x, .int .i64 y, iw v, iw v, .bool false]), (5, om2)], 6, none, [5, 4, 4]⟩, 10⟩ (.map 5) (ii n) (iw u) (ud) ⟨⟨[(9, .cells false [i8 0, i8 0, ii 0, ii 0, iw 0, iw 0, .bool false]), (8, .cells false [.int .u8 k, .int .i64 x, .int .i64 y]), (7, .cells false [iw u]), (6, .cells false [.int .u8 k, .int .i64 x, .int .i64 y]), (4, .cells false [.map 5, .int .i64 (IntKind.i64.wrap (st + Int.ofNat 1)), i8 2, .int .u8 k, .int .i64 x, .int .i64 y, iw v, iw v, .bool false]), (5, om3)], 6, none, [5, 5, 4, 4]⟩, 10⟩]) := by kernel_rfl
theorem pcas_o (k x y st : Int) (l0 l1 l2 l3 l4 l5 l6 : AV) (om _ _ : AObj) (v u _ _ w : Nat) : runX Tryz.prog none_ 60 94 (.call 94 [.ptr 4 0, .agg [.int .u8 k, .int .i64 x, .int .i64 y], iw w, iw u] ⟨⟨[(4, .cells false [.map 5, .int .i64 st, l0, l1, l2, l3, l4, l5, l6]), (5, om)], 2, none, []⟩, 6⟩) [.val 47 4 5 (iw v), .val 104 1 3 (.bool false)] = some ({ e := .ret, ts := [.bool false], s := ⟨⟨[(4, .cells false [.map 5, .int .i64 (IntKind.i64.wrap (st + Int.ofNat 1)), i8 3, .int .u8 k, .int .i64 x, .int .i64 y, iw v, iw v, .bool false]), (5, om)], 2, none, [4, 4]⟩, 11⟩ }, [], [Qst.lk 90 ⟨⟨[(10, .cells false [i8 0, i8 0, ii 0, ii 0, iw 0, iw 0, .bool false]), (9, .cells false [.int .u8 k, .int .i64 x, .int .i64 y]), (8, .cells false [iw u]), (7, .cells false [iw w]), (6, .cells false [.int .u8 k, .int .i64 x, .int .i64 y]), (4, .cells false [.map 5, .int .i64 (IntKind.i64.wrap (st + Int.ofNat 1)), l0, l1, l2, l3, l4, l5, l6]), (5, om)], 7, none, [4]⟩, 11⟩ (.map 5) (.agg [.int .u8 k, .int .i64 x, .int .i64 y]) false (iw v), Qst.val (some (.bool (Int.ofNat v == Int.ofNat w))) (.bool false)]) := by kernel_rfl
theorem pcas_n (k x y st : Int) (l0 l1 l2 l3 l4 l5 l6 : AV) (om _ _ : AObj) (v u _ _ w : Nat) : runX Tryz.prog none_ 60 94 (.call 94 [.ptr 4 0, .agg [.int .u8 k, .int .i64 x, .int .i64 y], iw w, iw u] ⟨⟨[(4, .cells false [.map 5, .int .i64 st, l0, l1, l2, l3, l4, l5, l6]), (5, om)], 2, none, []⟩, 6⟩) [.val 47 4 5 (iw v), .val 104 1 3 (.bool true), .pure 47 7 3 [] (.bool false)] = some ({ e := .ret, ts := [.bool false], s := ⟨⟨[(4, .cells false [.map 5, .int .i64 (IntKind.i64.wrap (st + Int.ofNat 1)), i8 3, .int .u8 k, .int .i64 x, .int .i64 y, iw v, iw v, .bool false]), (5, om)], 2, none, [4, 4]⟩, 11⟩ }, [], [Qst.lk 90 ⟨⟨[(10, .cells false [i8 0, i8 0, ii 0, ii 0, iw 0, iw 0, .bool false]), (9, .cells false [.int .u8 k, .int .i64 x, .int .i64 y]), (8, .cells false [iw u]), (7, .cells false [iw w]), (6, .cells false [.int .u8 k, .int .i64 x, .int .i64 y]), (4, .cells false [.map 5, .int .i64 (IntKind.i64.wrap (st + Int.ofNat 1)), l0, l1, l2, l3, l4, l5, l6]), (5, om)], 7, none, [4]⟩, 11⟩ (.map 5) (.agg [.int .u8 k, .int .i64 x, .int .i64 y]) false (iw v), Qst.val (some (.bool (Int.ofNat v == Int.ofNat w))) (.bool true), Qst.pure [] 78 [.agg [.int .u8 k, .int .i64 x, .int .i64 y]] (.bool false)]) := by kernel_rfl
theorem pcas_y (k x y st : Int) (l0 l1 l2 l3 l4 l5 l6 : AV) (om om2 om3 : AObj) (v u z n w : Nat) : runX Tryz.prog none_ 60 94 (.call 94 [.ptr 4 0, .agg [.int .u8 k, .int .i64 x, .int .i64 y], iw w, iw u] ⟨⟨[(4, .cells false [.map 5, .int .i64 st, l0, l1, l2, l3, l4, l5, l6]), (5, om)], 2, none, []⟩, 6⟩) [.val 47 4 5 (iw v), .val 104 1 3 (.bool true), .pure 47 7 3 [] (.bool true), .eff 47 8 11 (.tuple [iw z, ii n]) (fun s => s.set 5 om2), .eff 47 8 13 ud (fun s => s.set 5 om3)] = some ({ e := .ret, ts := [.bool true], s := ⟨⟨[(4, .cells false [.map 5, .int .i64 (IntKind.i64.wrap (st + Int.ofNat 1)), i8 3, .int .u8 k, .int .i64 x, .int .i64 y, iw v, iw u, .bool true]), (5, om3)], 2, none, [4, 4, 5, 5, 4, 4]⟩, 11⟩ }, [], [Qst.lk 90 ⟨⟨[(10, .cells false [i8 0, i8 0, ii 0, ii 0, iw 0, iw 0, .bool false]), (9, .cells false [.int .u8 k, .int .i64 x, .int .i64 y]), (8, .cells false [iw u]), (7, .cells false [iw w]), (6, .cells false [.int .u8 k, .int .i64 x, .int .i64 y]), (4, .cells false [.map 5, .int .i64 (IntKind.i64.wrap (st + Int.ofNat 1)), l0, l1, l2, l3, l4, l5, l6]), (5, om)], 7, none, [4]⟩, 11⟩ (.map 5) (.agg [.int .u8 k, .int .i64 x, .int .i64 y]) false (iw v), Qst.val (some (.bool (Int.ofNat v == Int.ofNat w))) (.bool true), Qst.pure [] 78 [.agg [.int .u8 k, .int .i64 x, .int .i64 y]] (.bool true), Qst.ent ⟨⟨[(10, .cells false [i8 0, i8 0, ii 0, ii 0, iw 0, iw 0, .bool false]), (9, .cells false [.int .u8 k, .int .i64 x, .int .i64 y]), (8, .cells false [iw u]), (7, .cells false [iw w]), (6, .cells false [.int .u8 k, .int .i64 x, .int .i64 y]), (4, .cells false [.map 5, .int .i64 (IntKind.i64.wrap (st + Int.ofNat 1)), i8 3, .int .u8 k, .int .i64 x, .int .i64 y, iw v, iw v, .bool false]), (5, om)], 7, none, [4, 4]⟩, 11⟩ 90 (.map 5) (.agg [.int .u8 k, .int .i64 x, .int .i64 y]) (.tuple [iw z, ii n]) ⟨⟨[(10, .cells false [i8 0, i8 0, ii 0, ii 0, iw 0, iw 0, .bool false]), (9, .cells false [.int .u8 k, .int .i64 x, .int .i64 y]), (8, .cells false [iw u]), (7, .cells false [iw w]), (6, .cells false [.int .u8 k, .int .i64 x, .int .i64 y]), (4, .cells false [.map 5, .int .i64 (IntKind.i64.wrap (st + Int.ofNat 1)), i8 3, .int .u8 k, .int .i64 x, .int .i64 y, iw v, iw v, .bool false]), (5, om2)], 7, none, [5, 4, 4]⟩, 11⟩, Qst.est ⟨⟨[(10, .cells false [i8 0, i8 0, ii 0, ii 0, iw 0, iw 0, .bool false]), (9, .cells false [.int .u8 k, .int .i64 x, .int .i64 y]), (8, .cells false [iw u]), (7, .cells false [iw w]), (6, .cells false [.int .u8 k, .int .i64 x, .int .i64 y]), (4, .cells false [.map 5, .int .i64 (IntKind.i64.wrap (st + Int.ofNat 1)), i8 3, .int .u8 k, .int .i64 x, .int .i64 y, iw v, iw v, .bool false]), (5, om2)], 7, none, [5, 4, 4]⟩, 11⟩ (.map 5) (ii n) (iw u) (ud) ⟨⟨[(10, .cells false [i8 0, i8 0, ii 0, ii 0, iw 0, iw 0, .bool false]), (9, .cells false [.int .u8 k, .int .i64 x, .int .i64 y]), (8, .cells false [iw u]), (7, .cells false [iw w]), (6, .cells false [.int .u8 k, .int .i64 x, .int .i64 y]), (4, .cells false [.map 5, .int .i64 (IntKind.i64.wrap (st + Int.ofNat 1)), i8 3, .int .u8 k, .int .i64 x, .int .i64 y, iw v, iw v, .bool false]), (5, om3)], 7, none, [5, 5, 4, 4]⟩, 11⟩]) := by kernel_rfl
/-! ### memory, plainly: words by their addresses -/
abbrev A3 := Int × Int × Int
abbrev MS := List (A3 × Nat)
def ak (a : A3) : List AV := [.int .u8 a.1, .int .i64 a.2.1, .int .i64 a.2.2]
def getW : MS → A3 → Nat
  | [], _ => 0
  | x :: t, a => if a = x.1 then x.2 else getW t a
def hasW : MS → A3 → Bool
  | [], _ => false
  | x :: t, a => if a = x.1 then true else hasW t a
def idxW : MS → A3 → Nat
  | [], _ => 0
  | x :: t, a => if a = x.1 then 0 else idxW t a + 1
def putW : MS → A3 → Nat → MS
  | [], a, v => [(a, v)]
  | x :: t, a, v => if a = x.1 then (a, v) :: t else x :: putW t a v
theorem get_none {a : A3} : ∀ {ms : MS}, hasW ms a = false → getW ms a = 0
  | [], _ => rfl
  | x :: t, h => by
    simp only [hasW, getW] at h ⊢
    split at h
    · cases h
    · rename_i hn
      rw [if_neg hn]
      exact get_none h
theorem put_len {a : A3} {v : Nat} : ∀ {ms : MS}, (putW ms a v).length = if hasW ms a then ms.length else ms.length + 1
  | [] => rfl
  | x :: t => by
    simp only [hasW, putW]
    split
    · rfl
    · rw [List.length_cons, put_len]
      split <;> simp
theorem idx_le {a : A3} : ∀ {ms : MS}, if hasW ms a then idxW ms a < ms.length else idxW ms a = ms.length
  | [] => rfl
  | x :: t => by
    have ih := @idx_le a t
    simp only [hasW, idxW]
    by_cases h : a = x.1
    · simp [h]
    · simp only [h, if_false]
      split <;> rename_i h2 <;> simp only [h2, if_true, if_false, Bool.false_eq_true] at ih <;> simp <;> omega
theorem put_has {a : A3} {v : Nat} : ∀ {ms : MS}, hasW (putW ms a v) a = true
  | [] => by simp [putW, hasW]
  | x :: t => by
    simp only [putW]
    by_cases h : a = x.1
    · simp [h, hasW]
    · simp only [if_neg h, hasW]
      exact put_has
theorem put_idx {a : A3} {v : Nat} : ∀ {ms : MS}, idxW (putW ms a v) a = idxW ms a
  | [] => by simp [putW, idxW]
  | x :: t => by
    simp only [putW]
    by_cases h : a = x.1
    · simp [h, idxW]
    · simp only [if_neg h, idxW]
      rw [put_idx]
theorem put_put {a : A3} {u v : Nat} : ∀ {ms : MS}, putW (putW ms a u) a v = putW ms a v
  | [] => by simp [putW]
  | x :: t => by
    simp only [putW]
    by_cases h : a = x.1
    · simp [h, putW]
    · simp only [if_neg h, putW]
      rw [put_put]
theorem put_get {a : A3} {v : Nat} : ∀ {ms : MS}, getW (putW ms a v) a = v
  | [] => by simp [putW, getW]
  | x :: t => by
    simp only [putW]
    by_cases h : a = x.1
    · simp [h, getW]
    · simp only [if_neg h, getW]
      exact put_get
theorem put_new {a : A3} {v : Nat} : ∀ {ms : MS}, hasW ms a = false → putW ms a v = ms ++ [(a, v)]
  | [], _ => rfl
  | x :: t, h => by
    simp only [hasW, putW] at h ⊢
    by_cases hx : a = x.1
    · simp [hx] at h
    · simp only [if_neg hx] at h ⊢
      rw [put_new h]
      rfl
/-! ### the program's map of words -/
def mapA (ms : MS) : List (AV × AV) := ms.map fun x => (.agg (ak x.1), .int .u64 (Int.ofNat x.2))
def mapO (ms : MS) : AObj := .map (mapA ms) (List.range ms.length) ms.length
theorem eq_bif (s : AS) (_ : Nat) (a1 a2 a3 b1 b2 b3 : Int) : eqA Tryz.prog s 8 44 (.agg [.int .u8 a1, .int .i64 a2, .int .i64 a3]) (.agg [.int .u8 b1, .int .i64 b2, .int .i64 b3]) =
    (bif a1 == b1 then (bif a2 == b2 then (bif a3 == b3 then some true else some false) else some false) else some false) := by kernel_rfl
theorem eqK (s : AS) (a b : A3) : eqA Tryz.prog s 8 44 (.agg (ak a)) (.agg (ak b)) = some (decide (a = b)) := by
  obtain ⟨a1, a2, a3⟩ := a
  obtain ⟨b1, b2, b3⟩ := b
  refine (eq_bif s 0 a1 a2 a3 b1 b2 b3).trans ?_
  by_cases h1 : a1 = b1
  · by_cases h2 : a2 = b2
    · by_cases h3 : a3 = b3
      · simp [h1, h2, h3]
      · have : (a3 == b3) = false := by simpa using h3
        simp [h1, h2, h3, this]
    · have : (a2 == b2) = false := by simpa using h2
      simp [h1, h2, this]
  · have : (a1 == b1) = false := by simpa using h1
    simp [h1, this]
theorem find_mapA (s : AS) (a : A3) : ∀ (ms : MS) (i : Nat), findA Tryz.prog s 44 (.agg (ak a)) (mapA ms) i = if hasW ms a then some (some (i + idxW ms a, .agg (ak a), .int .u64 (Int.ofNat (getW ms a)))) else some none
  | [], _ => rfl
  | x :: t, i => by
    have he := eqK s a x.1
    by_cases h : a = x.1
    · have hd : decide (a = x.1) = true := by simpa using h
      rw [hd] at he
      rw [show mapA (x :: t) = (.agg (ak x.1), .int .u64 (Int.ofNat x.2)) :: mapA t from rfl]
      simp only [findA, he, hasW, getW, idxW, if_pos h, if_true, Nat.add_zero]
      rw [← h]
    · have hd : decide (a = x.1) = false := by simpa using h
      rw [hd] at he
      rw [show mapA (x :: t) = (.agg (ak x.1), .int .u64 (Int.ofNat x.2)) :: mapA t from rfl]
      simp only [findA, he, hasW, getW, idxW, if_neg h]
      rw [find_mapA s a t (i + 1), show i + 1 + idxW t a = i + (idxW t a + 1) from by omega]
theorem set_mapA (a : A3) (v : Nat) : ∀ ms : MS, hasW ms a = true → setAt (mapA ms) (idxW ms a) (.agg (ak a), .int .u64 (Int.ofNat v)) = mapA (putW ms a v)
  | [], h => by cases h
  | x :: t, h => by
    rw [show mapA (x :: t) = (.agg (ak x.1), .int .u64 (Int.ofNat x.2)) :: mapA t from rfl]
    by_cases hx : a = x.1
    · simp only [idxW, putW, if_pos hx, setAt]
      rfl
    · simp only [hasW, if_neg hx] at h
      simp only [idxW, putW, if_neg hx, setAt]
      rw [set_mapA a v t h]
      rfl
theorem stamp_range (n : Nat) : ∀ (m k : Nat), k ≤ n → n < k + m → stampAt n (List.range' k m) k = some n
  | 0, k, h1, h2 => by omega
  | m + 1, k, h1, h2 => by
    simp only [List.range'_succ, stampAt]
    by_cases h : k = n
    · subst h
      simp
    · have : Nat.beq k n = false := by
        cases hb : Nat.beq k n with
        | false => rfl
        | true => exact absurd (Nat.eq_of_beq_eq_true hb) h
      rw [this]
      exact stamp_range n m (k + 1) (by omega) (by omega)
theorem stamp_of {n m : Nat} (h : n < m) : stampAt n (List.range m) 0 = some n := by
  rw [List.range_eq_range']
  exact stamp_range n m 0 (Nat.zero_le _) (by omega)
theorem uMap : Tryz.prog.underlying 90 = some (.map 44 45) := by kernel_rfl
theorem zU : zeroA Tryz.prog 45 = some (.int .u64 0) := by kernel_rfl
theorem keyK (a : A3) : keyA Tryz.prog 4 44 (.agg (ak a)) = true := by
  obtain ⟨a1, a2, a3⟩ := a
  show keyA Tryz.prog 4 44 (.agg [.int .u8 a1, .int .i64 a2, .int .i64 a3]) = true
  kernel_rfl
theorem bitK (a : A3) : bitEq (.agg (ak a)) (.agg (ak a)) = true := by
  obtain ⟨a1, a2, a3⟩ := a
  simp [ak, bitEq, bitEqs, bitEq1]
theorem lk_mapA {s : AS} {b : Nat} {ms : MS} (a : A3) (hs : s.get b = some (mapO ms)) : lookupA Tryz.prog s 90 (.map b) (.agg (ak a)) false = some (.int .u64 (Int.ofNat (getW ms a))) := by
  simp only [lookupA, uMap, keyK, if_true, mapOf, hs, mapO, find_mapA, zU]
  by_cases h : hasW ms a = true
  · simp only [h, if_true]
    rfl
  · have h : hasW ms a = false := by simpa using h
    simp only [h, if_false, Bool.false_eq_true, get_none h]
    rfl
theorem ent_mapA {s : AS} {b : Nat} {ms : MS} (a : A3) (hs : s.get b = some (mapO ms)) : entryA Tryz.prog s 90 (.map b) (.agg (ak a)) = some (.int .u64 (Int.ofNat (getW ms a)), idxW ms a, s.set b (mapO (putW ms a (getW ms a)))) := by
  have hi := @idx_le a ms
  simp only [entryA, uMap, keyK, if_true, mapAt, hs, mapO, find_mapA, zU]
  by_cases h : hasW ms a = true
  · simp only [h, if_true] at hi
    have hl : (putW ms a (getW ms a)).length = ms.length := by rw [put_len, h]; rfl
    have hr : (List.range ms.length)[idxW ms a]? = some (idxW ms a) := by simp [hi]
    simp only [h, if_true, bitK, Bool.not_true, Bool.false_eq_true, if_false, Nat.zero_add, hr, hl, set_mapA a _ ms h]
  · have h : hasW ms a = false := by simpa using h
    simp only [h, Bool.false_eq_true, if_false] at hi ⊢
    have hl : (putW ms a (getW ms a)).length = ms.length + 1 := by rw [put_len, h]; rfl
    rw [hl, hi, List.range_succ, put_new h, get_none h]
    simp only [mapA, List.map_append, List.map_cons, List.map_nil]
    rfl
theorem est_mapA {s : AS} {b : Nat} {ms : MS} (a : A3) (v : Nat) (h : hasW ms a = true) (hs : s.get b = some (mapO ms)) : entryStoreA s (.map b) (.int .i64 (Int.ofNat (idxW ms a))) (.int .u64 (Int.ofNat v)) = some (s.set b (mapO (putW ms a v))) := by
  have hi := @idx_le a ms
  simp only [h, if_true] at hi
  have hl : (putW ms a v).length = ms.length := by rw [put_len, h]; rfl
  have hk : ∃ x, (mapA ms)[idxW ms a]? = some (.agg (ak a), x) := by
    have : ∀ ms : MS, hasW ms a = true → ∃ x, (mapA ms)[idxW ms a]? = some (.agg (ak a), x) := by
      intro ms
      induction ms with
      | nil => intro h; cases h
      | cons x t ih =>
        intro h
        rw [show mapA (x :: t) = (.agg (ak x.1), .int .u64 (Int.ofNat x.2)) :: mapA t from rfl]
        by_cases hx : a = x.1
        · simp only [idxW, if_pos hx]
          exact ⟨_, by rw [hx]; rfl⟩
        · simp only [hasW, if_neg hx] at h
          simp only [idxW, if_neg hx]
          exact ih h
    exact this ms h
  obtain ⟨x, hx⟩ := hk
  simp only [entryStoreA, mapAt, hs, mapO, stamp_of hi, hx, hl, AV.young, noteEsc, Bool.false_eq_true, if_false, set_mapA a v ms h]
/-! ### which addresses may be -/
def rmK (k : Int) : Int × Int := if k = 6 then (32, 2) else if k = 7 then (4, 1) else if k = 8 then (16, 10) else if k = 9 then (256, 8) else if k = 10 then (9, 1) else if k = 11 then (1, 2) else if 0 ≤ k ∧ k ≤ 5 then (1, 1) else (0, 0)
def inR (r : Int × Int) (a : A3) : Bool := decide (0 ≤ a.2.1) && decide (a.2.1 < r.1) && decide (0 ≤ a.2.2) && decide (a.2.2 < r.2)
def mayA (a : A3) : Bool := inR (rmK a.1) a
theorem rooms_call (k : Int) (h0 : 0 ≤ k) (s : AS) : Sound Tryz.prog (.call 98 [.int .u8 k] s) ⟨.ret, [.agg [.int .i64 (rmK k).1, .int .i64 (rmK k).2]], s⟩ := by
  have hc : k = 0 ∨ k = 1 ∨ k = 2 ∨ k = 3 ∨ k = 4 ∨ k = 5 ∨ k = 6 ∨ k = 7 ∨ k = 8 ∨ k = 9 ∨ k = 10 ∨ k = 11 ∨ 12 ≤ k := by omega
  rcases hc with rfl | rfl | rfl | rfl | rfl | rfl | rfl | rfl | rfl | rfl | rfl | rfl | h
  · exact Sound.pure (G := []) (runX_sound mixed none_sound rooms_0 trivial) rfl rfl rfl rfl
  · exact Sound.pure (G := []) (runX_sound mixed none_sound rooms_1 trivial) rfl rfl rfl rfl
  · exact Sound.pure (G := []) (runX_sound mixed none_sound rooms_2 trivial) rfl rfl rfl rfl
  · exact Sound.pure (G := []) (runX_sound mixed none_sound rooms_3 trivial) rfl rfl rfl rfl
  · exact Sound.pure (G := []) (runX_sound mixed none_sound rooms_4 trivial) rfl rfl rfl rfl
  · exact Sound.pure (G := []) (runX_sound mixed none_sound rooms_5 trivial) rfl rfl rfl rfl
  · exact Sound.pure (G := []) (runX_sound mixed none_sound rooms_6 trivial) rfl rfl rfl rfl
  · exact Sound.pure (G := []) (runX_sound mixed none_sound rooms_7 trivial) rfl rfl rfl rfl
  · exact Sound.pure (G := []) (runX_sound mixed none_sound rooms_8 trivial) rfl rfl rfl rfl
  · exact Sound.pure (G := []) (runX_sound mixed none_sound rooms_9 trivial) rfl rfl rfl rfl
  · exact Sound.pure (G := []) (runX_sound mixed none_sound rooms_10 trivial) rfl rfl rfl rfl
  · exact Sound.pure (G := []) (runX_sound mixed none_sound rooms_11 trivial) rfl rfl rfl rfl
  · have e : rmK k = (0, 0) := by
      unfold rmK
      repeat (rw [if_neg (by omega)])
    rw [e]
    have q : ∀ n : Nat, n < 12 → some (AV.bool (k == Int.ofNat n)) = some (AV.bool false) := fun n hn => by
      have : (k == Int.ofNat n) = false := by simp; omega
      rw [this]
    exact Sound.pure (G := []) (runX_sound mixed none_sound (rooms_n k) ⟨q _ (by omega), q _ (by omega), q _ (by omega), q _ (by omega), q _ (by omega), q _ (by omega), q _ (by omega), q _ (by omega), q _ (by omega), q _ (by omega), q _ (by omega), q _ (by omega), trivial⟩) rfl rfl rfl rfl
theorem q_ge {x n : Int} {v : Bool} (h : decide (n ≤ x) = v) : some (AV.bool (decide (x ≥ n))) = some (AV.bool v) := by subst h; rfl
theorem q_lt {x n : Int} {v : Bool} (h : decide (x < n) = v) : some (AV.bool (decide (x < n))) = some (AV.bool v) := by subst h; rfl
/-- The four tests, one behind the other. -/
theorem chain4 (r : Int × Int) (a : A3) : (decide (0 ≤ a.2.1) = false ∧ inR r a = false) ∨ (decide (0 ≤ a.2.1) = true ∧ decide (a.2.1 < r.1) = false ∧ inR r a = false) ∨ (decide (0 ≤ a.2.1) = true ∧ decide (a.2.1 < r.1) = true ∧ decide (0 ≤ a.2.2) = false ∧ inR r a = false) ∨
    (decide (0 ≤ a.2.1) = true ∧ decide (a.2.1 < r.1) = true ∧ decide (0 ≤ a.2.2) = true ∧ decide (a.2.2 < r.2) = false ∧ inR r a = false) ∨ (decide (0 ≤ a.2.1) = true ∧ decide (a.2.1 < r.1) = true ∧ decide (0 ≤ a.2.2) = true ∧ decide (a.2.2 < r.2) = true ∧ inR r a = true) := by
  unfold inR
  cases decide (0 ≤ a.2.1) <;> cases decide (a.2.1 < r.1) <;> cases decide (0 ≤ a.2.2) <;> cases decide (a.2.2 < r.2) <;> simp
theorem pmay_call (a : A3) (h0 : 0 ≤ a.1) (s : AS) : Sound Tryz.prog (.call 78 [.agg (ak a)] s) ⟨.ret, [.bool (mayA a)], s⟩ := by
  have hr : ∀ s, hasG s [] = true → _ := fun s _ => rooms_call a.1 h0 s
  unfold mayA
  rcases chain4 (rmK a.1) a with ⟨h1, e⟩ | ⟨h1, h2, e⟩ | ⟨h1, h2, h3, e⟩ | ⟨h1, h2, h3, h4, e⟩ | ⟨h1, h2, h3, h4, e⟩ <;> rw [e]
  · exact Sound.pure (G := []) (runX_sound mixed none_sound (pmay_0 a.1 a.2.1 a.2.2 _ _) ⟨hr, q_ge h1, trivial⟩) rfl rfl rfl rfl
  · exact Sound.pure (G := []) (runX_sound mixed none_sound (pmay_1 a.1 a.2.1 a.2.2 _ _) ⟨hr, q_ge h1, q_lt h2, trivial⟩) rfl rfl rfl rfl
  · exact Sound.pure (G := []) (runX_sound mixed none_sound (pmay_2 a.1 a.2.1 a.2.2 _ _) ⟨hr, q_ge h1, q_lt h2, q_ge h3, trivial⟩) rfl rfl rfl rfl
  · exact Sound.pure (G := []) (runX_sound mixed none_sound (pmay_3 a.1 a.2.1 a.2.2 _ _) ⟨hr, q_ge h1, q_lt h2, q_ge h3, q_lt h4, trivial⟩) rfl rfl rfl rfl
  · exact Sound.pure (G := []) (runX_sound mixed none_sound (pmay_4 a.1 a.2.1 a.2.2 _ _) ⟨hr, q_ge h1, q_lt h2, q_ge h3, q_lt h4, trivial⟩) rfl rfl rfl rfl
theorem rmay_at (a : A3) (h0 : 0 ≤ a.1) (s : AS) : Sound Tryz.prog (.call 79 [.agg (ak a)] s) ⟨.ret, [.bool (mayA a)], s⟩ := by
  obtain ⟨k, x, y⟩ := a
  have hc : k = 6 ∨ k = 7 ∨ k = 8 ∨ k = 9 ∨ k = 10 ∨ k = 11 ∨ (0 ≤ k ∧ k ≤ 5) ∨ 12 ≤ k := by
    have : 0 ≤ k := h0
    omega
  unfold mayA
  rcases hc with rfl | rfl | rfl | rfl | rfl | rfl | h | h
  · show Sound _ _ ⟨_, [.bool (inR (32, 2) ((6, x, y) : A3))], _⟩
    rcases chain4 (32, 2) ((6, x, y) : A3) with ⟨h1, e⟩ | ⟨h1, h2, e⟩ | ⟨h1, h2, h3, e⟩ | ⟨h1, h2, h3, h4, e⟩ | ⟨h1, h2, h3, h4, e⟩ <;> rw [e]
    · exact Sound.pure (G := []) (runX_sound mixed none_sound (rmy_6_0 x y) ⟨q_ge h1, trivial⟩) rfl rfl rfl rfl
    · exact Sound.pure (G := []) (runX_sound mixed none_sound (rmy_6_1 x y) ⟨q_ge h1, q_lt h2, trivial⟩) rfl rfl rfl rfl
    · exact Sound.pure (G := []) (runX_sound mixed none_sound (rmy_6_2 x y) ⟨q_ge h1, q_lt h2, q_ge h3, trivial⟩) rfl rfl rfl rfl
    · exact Sound.pure (G := []) (runX_sound mixed none_sound (rmy_6_3 x y) ⟨q_ge h1, q_lt h2, q_ge h3, q_lt h4, trivial⟩) rfl rfl rfl rfl
    · exact Sound.pure (G := []) (runX_sound mixed none_sound (rmy_6_4 x y) ⟨q_ge h1, q_lt h2, q_ge h3, q_lt h4, trivial⟩) rfl rfl rfl rfl
  · show Sound _ _ ⟨_, [.bool (inR (4, 1) ((7, x, y) : A3))], _⟩
    rcases chain4 (4, 1) ((7, x, y) : A3) with ⟨h1, e⟩ | ⟨h1, h2, e⟩ | ⟨h1, h2, h3, e⟩ | ⟨h1, h2, h3, h4, e⟩ | ⟨h1, h2, h3, h4, e⟩ <;> rw [e]
    · exact Sound.pure (G := []) (runX_sound mixed none_sound (rmy_7_0 x y) ⟨q_ge h1, trivial⟩) rfl rfl rfl rfl
    · exact Sound.pure (G := []) (runX_sound mixed none_sound (rmy_7_1 x y) ⟨q_ge h1, q_lt h2, trivial⟩) rfl rfl rfl rfl
    · exact Sound.pure (G := []) (runX_sound mixed none_sound (rmy_7_2 x y) ⟨q_ge h1, q_lt h2, q_ge h3, trivial⟩) rfl rfl rfl rfl
    · exact Sound.pure (G := []) (runX_sound mixed none_sound (rmy_7_3 x y) ⟨q_ge h1, q_lt h2, q_ge h3, q_lt h4, trivial⟩) rfl rfl rfl rfl
    · exact Sound.pure (G := []) (runX_sound mixed none_sound (rmy_7_4 x y) ⟨q_ge h1, q_lt h2, q_ge h3, q_lt h4, trivial⟩) rfl rfl rfl rfl
  · show Sound _ _ ⟨_, [.bool (inR (16, 10) ((8, x, y) : A3))], _⟩
    rcases chain4 (16, 10) ((8, x, y) : A3) with ⟨h1, e⟩ | ⟨h1, h2, e⟩ | ⟨h1, h2, h3, e⟩ | ⟨h1, h2, h3, h4, e⟩ | ⟨h1, h2, h3, h4, e⟩ <;> rw [e]
    · exact Sound.pure (G := []) (runX_sound mixed none_sound (rmy_8_0 x y) ⟨q_ge h1, trivial⟩) rfl rfl rfl rfl
    · exact Sound.pure (G := []) (runX_sound mixed none_sound (rmy_8_1 x y) ⟨q_ge h1, q_lt h2, trivial⟩) rfl rfl rfl rfl
    · exact Sound.pure (G := []) (runX_sound mixed none_sound (rmy_8_2 x y) ⟨q_ge h1, q_lt h2, q_ge h3, trivial⟩) rfl rfl rfl rfl
    · exact Sound.pure (G := []) (runX_sound mixed none_sound (rmy_8_3 x y) ⟨q_ge h1, q_lt h2, q_ge h3, q_lt h4, trivial⟩) rfl rfl rfl rfl
    · exact Sound.pure (G := []) (runX_sound mixed none_sound (rmy_8_4 x y) ⟨q_ge h1, q_lt h2, q_ge h3, q_lt h4, trivial⟩) rfl rfl rfl rfl
  · show Sound _ _ ⟨_, [.bool (inR (256, 8) ((9, x, y) : A3))], _⟩
    rcases chain4 (256, 8) ((9, x, y) : A3) with ⟨h1, e⟩ | ⟨h1, h2, e⟩ | ⟨h1, h2, h3, e⟩ | ⟨h1, h2, h3, h4, e⟩ | ⟨h1, h2, h3, h4, e⟩ <;> rw [e]
    · exact Sound.pure (G := []) (runX_sound mixed none_sound (rmy_9_0 x y) ⟨q_ge h1, trivial⟩) rfl rfl rfl rfl
    · exact Sound.pure (G := []) (runX_sound mixed none_sound (rmy_9_1 x y) ⟨q_ge h1, q_lt h2, trivial⟩) rfl rfl rfl rfl
    · exact Sound.pure (G := []) (runX_sound mixed none_sound (rmy_9_2 x y) ⟨q_ge h1, q_lt h2, q_ge h3, trivial⟩) rfl rfl rfl rfl
    · exact Sound.pure (G := []) (runX_sound mixed none_sound (rmy_9_3 x y) ⟨q_ge h1, q_lt h2, q_ge h3, q_lt h4, trivial⟩) rfl rfl rfl rfl
    · exact Sound.pure (G := []) (runX_sound mixed none_sound (rmy_9_4 x y) ⟨q_ge h1, q_lt h2, q_ge h3, q_lt h4, trivial⟩) rfl rfl rfl rfl
  · show Sound _ _ ⟨_, [.bool (inR (9, 1) ((10, x, y) : A3))], _⟩
    rcases chain4 (9, 1) ((10, x, y) : A3) with ⟨h1, e⟩ | ⟨h1, h2, e⟩ | ⟨h1, h2, h3, e⟩ | ⟨h1, h2, h3, h4, e⟩ | ⟨h1, h2, h3, h4, e⟩ <;> rw [e]
    · exact Sound.pure (G := []) (runX_sound mixed none_sound (rmy_10_0 x y) ⟨q_ge h1, trivial⟩) rfl rfl rfl rfl
    · exact Sound.pure (G := []) (runX_sound mixed none_sound (rmy_10_1 x y) ⟨q_ge h1, q_lt h2, trivial⟩) rfl rfl rfl rfl
    · exact Sound.pure (G := []) (runX_sound mixed none_sound (rmy_10_2 x y) ⟨q_ge h1, q_lt h2, q_ge h3, trivial⟩) rfl rfl rfl rfl
    · exact Sound.pure (G := []) (runX_sound mixed none_sound (rmy_10_3 x y) ⟨q_ge h1, q_lt h2, q_ge h3, q_lt h4, trivial⟩) rfl rfl rfl rfl
    · exact Sound.pure (G := []) (runX_sound mixed none_sound (rmy_10_4 x y) ⟨q_ge h1, q_lt h2, q_ge h3, q_lt h4, trivial⟩) rfl rfl rfl rfl
  · show Sound _ _ ⟨_, [.bool (inR (1, 2) ((11, x, y) : A3))], _⟩
    rcases chain4 (1, 2) ((11, x, y) : A3) with ⟨h1, e⟩ | ⟨h1, h2, e⟩ | ⟨h1, h2, h3, e⟩ | ⟨h1, h2, h3, h4, e⟩ | ⟨h1, h2, h3, h4, e⟩ <;> rw [e]
    · exact Sound.pure (G := []) (runX_sound mixed none_sound (rmy_11_0 x y) ⟨q_ge h1, trivial⟩) rfl rfl rfl rfl
    · exact Sound.pure (G := []) (runX_sound mixed none_sound (rmy_11_1 x y) ⟨q_ge h1, q_lt h2, trivial⟩) rfl rfl rfl rfl
    · exact Sound.pure (G := []) (runX_sound mixed none_sound (rmy_11_2 x y) ⟨q_ge h1, q_lt h2, q_ge h3, trivial⟩) rfl rfl rfl rfl
    · exact Sound.pure (G := []) (runX_sound mixed none_sound (rmy_11_3 x y) ⟨q_ge h1, q_lt h2, q_ge h3, q_lt h4, trivial⟩) rfl rfl rfl rfl
    · exact Sound.pure (G := []) (runX_sound mixed none_sound (rmy_11_4 x y) ⟨q_ge h1, q_lt h2, q_ge h3, q_lt h4, trivial⟩) rfl rfl rfl rfl
  · have e : rmK k = (1, 1) := by
      unfold rmK
      rw [if_neg (by omega), if_neg (by omega), if_neg (by omega), if_neg (by omega), if_neg (by omega), if_neg (by omega), if_pos h]
    show Sound _ _ ⟨_, [.bool (inR (rmK k) ((k, x, y) : A3))], _⟩
    rw [e]
    have q : ∀ n : Nat, 5 < n → some (AV.bool (k == Int.ofNat n)) = some (AV.bool false) := fun n hn => by
      have : (k == Int.ofNat n) = false := by simp; omega
      rw [this]
    have hle : some (AV.bool (decide (k ≤ 11))) = some (AV.bool true) := by
      have : decide (k ≤ 11) = true := by simp; omega
      rw [this]
    rcases chain4 (1, 1) ((k, x, y) : A3) with ⟨h1, e⟩ | ⟨h1, h2, e⟩ | ⟨h1, h2, h3, e⟩ | ⟨h1, h2, h3, h4, e⟩ | ⟨h1, h2, h3, h4, e⟩ <;> rw [e]
    · exact Sound.pure (G := []) (runX_sound mixed none_sound (rmy_n0 k x y) ⟨q _ (by omega), q _ (by omega), q _ (by omega), q _ (by omega), q _ (by omega), q _ (by omega), hle, q_ge h1, trivial⟩) rfl rfl rfl rfl
    · exact Sound.pure (G := []) (runX_sound mixed none_sound (rmy_n1 k x y) ⟨q _ (by omega), q _ (by omega), q _ (by omega), q _ (by omega), q _ (by omega), q _ (by omega), hle, q_ge h1, q_lt h2, trivial⟩) rfl rfl rfl rfl
    · exact Sound.pure (G := []) (runX_sound mixed none_sound (rmy_n2 k x y) ⟨q _ (by omega), q _ (by omega), q _ (by omega), q _ (by omega), q _ (by omega), q _ (by omega), hle, q_ge h1, q_lt h2, q_ge h3, trivial⟩) rfl rfl rfl rfl
    · exact Sound.pure (G := []) (runX_sound mixed none_sound (rmy_n3 k x y) ⟨q _ (by omega), q _ (by omega), q _ (by omega), q _ (by omega), q _ (by omega), q _ (by omega), hle, q_ge h1, q_lt h2, q_ge h3, q_lt h4, trivial⟩) rfl rfl rfl rfl
    · exact Sound.pure (G := []) (runX_sound mixed none_sound (rmy_n4 k x y) ⟨q _ (by omega), q _ (by omega), q _ (by omega), q _ (by omega), q _ (by omega), q _ (by omega), hle, q_ge h1, q_lt h2, q_ge h3, q_lt h4, trivial⟩) rfl rfl rfl rfl
  · have e : rmK k = (0, 0) := by
      unfold rmK
      repeat (rw [if_neg (by omega)])
    have e2 : inR (rmK k) ((k, x, y) : A3) = false := by
      rw [e]
      unfold inR
      by_cases h1 : (0 : Int) ≤ x
      · by_cases h2 : x < 0
        · omega
        · simp [h2]
      · simp [h1]
    show Sound _ _ ⟨_, [.bool (inR (rmK k) ((k, x, y) : A3))], _⟩
    rw [e2]
    have q : ∀ n : Nat, n < 12 → some (AV.bool (k == Int.ofNat n)) = some (AV.bool false) := fun n hn => by
      have : (k == Int.ofNat n) = false := by simp; omega
      rw [this]
    have hle : some (AV.bool (decide (k ≤ 11))) = some (AV.bool false) := by
      have : decide (k ≤ 11) = false := by simp; omega
      rw [this]
    exact Sound.pure (G := []) (runX_sound mixed none_sound (rmy_o k x y) ⟨q _ (by omega), q _ (by omega), q _ (by omega), q _ (by omega), q _ (by omega), q _ (by omega), hle, trivial⟩) rfl rfl rfl rfl
end Go.Proofs.YtchekpapgfojhaaGreatDoor.ctlsFallback
