/- The memory of the program, as a plain list of words; wherever it lies. Conditions: those that each theorem names, and no others. -/
import Derived.Test.YtofbdgmknfbkfaaGreatDoorLife1
namespace Go.Proofs.YtofbdgmknfbkfaaGreatDoor.nodesLife
open Go Go.Mini
/-! ### how the memory runs -/
theorem rooms_0  : runX Tryz.prog none_ 60 94 (.call 94 [.int .u8 (Int.ofNat 0)] (startS Tryz.prog [])) [] = some ({ e := .ret, ts := [.agg [.int .i64 (Int.ofNat 1), .int .i64 (Int.ofNat 1)]], s := { h := { bs := [], len := 0, esc := none, wr := [] }, nx := 3 } }, [], []) := by kernel_rfl
theorem rooms_1  : runX Tryz.prog none_ 60 94 (.call 94 [.int .u8 (Int.ofNat 1)] (startS Tryz.prog [])) [] = some ({ e := .ret, ts := [.agg [.int .i64 (Int.ofNat 1), .int .i64 (Int.ofNat 1)]], s := { h := { bs := [], len := 0, esc := none, wr := [] }, nx := 3 } }, [], []) := by kernel_rfl
theorem rooms_2  : runX Tryz.prog none_ 60 94 (.call 94 [.int .u8 (Int.ofNat 2)] (startS Tryz.prog [])) [] = some ({ e := .ret, ts := [.agg [.int .i64 (Int.ofNat 1), .int .i64 (Int.ofNat 1)]], s := { h := { bs := [], len := 0, esc := none, wr := [] }, nx := 3 } }, [], []) := by kernel_rfl
theorem rooms_3  : runX Tryz.prog none_ 60 94 (.call 94 [.int .u8 (Int.ofNat 3)] (startS Tryz.prog [])) [] = some ({ e := .ret, ts := [.agg [.int .i64 (Int.ofNat 1), .int .i64 (Int.ofNat 1)]], s := { h := { bs := [], len := 0, esc := none, wr := [] }, nx := 3 } }, [], []) := by kernel_rfl
theorem rooms_4  : runX Tryz.prog none_ 60 94 (.call 94 [.int .u8 (Int.ofNat 4)] (startS Tryz.prog [])) [] = some ({ e := .ret, ts := [.agg [.int .i64 (Int.ofNat 1), .int .i64 (Int.ofNat 1)]], s := { h := { bs := [], len := 0, esc := none, wr := [] }, nx := 3 } }, [], []) := by kernel_rfl
theorem rooms_5  : runX Tryz.prog none_ 60 94 (.call 94 [.int .u8 (Int.ofNat 5)] (startS Tryz.prog [])) [] = some ({ e := .ret, ts := [.agg [.int .i64 (Int.ofNat 1), .int .i64 (Int.ofNat 1)]], s := { h := { bs := [], len := 0, esc := none, wr := [] }, nx := 3 } }, [], []) := by kernel_rfl
theorem rooms_6  : runX Tryz.prog none_ 60 94 (.call 94 [.int .u8 (Int.ofNat 6)] (startS Tryz.prog [])) [] = some ({ e := .ret, ts := [.agg [.int .i64 (Int.ofNat 32), .int .i64 (Int.ofNat 2)]], s := { h := { bs := [], len := 0, esc := none, wr := [] }, nx := 3 } }, [], []) := by kernel_rfl
theorem rooms_7  : runX Tryz.prog none_ 60 94 (.call 94 [.int .u8 (Int.ofNat 7)] (startS Tryz.prog [])) [] = some ({ e := .ret, ts := [.agg [.int .i64 (Int.ofNat 4), .int .i64 (Int.ofNat 1)]], s := { h := { bs := [], len := 0, esc := none, wr := [] }, nx := 3 } }, [], []) := by kernel_rfl
theorem rooms_8  : runX Tryz.prog none_ 60 94 (.call 94 [.int .u8 (Int.ofNat 8)] (startS Tryz.prog [])) [] = some ({ e := .ret, ts := [.agg [.int .i64 (Int.ofNat 16), .int .i64 (Int.ofNat 10)]], s := { h := { bs := [], len := 0, esc := none, wr := [] }, nx := 3 } }, [], []) := by kernel_rfl
theorem rooms_9  : runX Tryz.prog none_ 60 94 (.call 94 [.int .u8 (Int.ofNat 9)] (startS Tryz.prog [])) [] = some ({ e := .ret, ts := [.agg [.int .i64 (Int.ofNat 256), .int .i64 (Int.ofNat 8)]], s := { h := { bs := [], len := 0, esc := none, wr := [] }, nx := 3 } }, [], []) := by kernel_rfl
theorem rooms_10  : runX Tryz.prog none_ 60 94 (.call 94 [.int .u8 (Int.ofNat 10)] (startS Tryz.prog [])) [] = some ({ e := .ret, ts := [.agg [.int .i64 (Int.ofNat 9), .int .i64 (Int.ofNat 1)]], s := { h := { bs := [], len := 0, esc := none, wr := [] }, nx := 3 } }, [], []) := by kernel_rfl
theorem rooms_11  : runX Tryz.prog none_ 60 94 (.call 94 [.int .u8 (Int.ofNat 11)] (startS Tryz.prog [])) [] = some ({ e := .ret, ts := [.agg [.int .i64 (Int.ofNat 1), .int .i64 (Int.ofNat 2)]], s := { h := { bs := [], len := 0, esc := none, wr := [] }, nx := 3 } }, [], []) := by kernel_rfl
theorem rooms_n (k : Int) : runX Tryz.prog none_ 60 94 (.call 94 [.int .u8 k] (startS Tryz.prog [])) [.val 94 2 0 (.bool false), .val 94 3 0 (.bool false), .val 94 4 0 (.bool false), .val 94 5 0 (.bool false), .val 94 6 0 (.bool false), .val 94 7 0 (.bool false), .val 94 9 0 (.bool false), .val 94 11 0 (.bool false), .val 94 13 0 (.bool false), .val 94 15 0 (.bool false), .val 94 17 0 (.bool false), .val 94 19 0 (.bool false)] = some ({ e := .ret, ts := [.agg [.int .i64 (Int.ofNat 0), .int .i64 (Int.ofNat 0)]], s := { h := { bs := [], len := 0, esc := none, wr := [] }, nx := 3 } }, [], [.val (some (.bool (k == Int.ofNat 0))) (.bool false), .val (some (.bool (k == Int.ofNat 1))) (.bool false), .val (some (.bool (k == Int.ofNat 2))) (.bool false), .val (some (.bool (k == Int.ofNat 3))) (.bool false), .val (some (.bool (k == Int.ofNat 4))) (.bool false), .val (some (.bool (k == Int.ofNat 5))) (.bool false), .val (some (.bool (k == Int.ofNat 6))) (.bool false), .val (some (.bool (k == Int.ofNat 7))) (.bool false), .val (some (.bool (k == Int.ofNat 8))) (.bool false), .val (some (.bool (k == Int.ofNat 9))) (.bool false), .val (some (.bool (k == Int.ofNat 10))) (.bool false), .val (some (.bool (k == Int.ofNat 11))) (.bool false)]) := by kernel_rfl
theorem pmay_0 (k x y r1 r2 : Int) : runX Tryz.prog none_ 60 59 (.call 59 [.agg [.int .u8 k, .int .i64 x, .int .i64 y]] (startS Tryz.prog [])) [.pure 59 1 2 [] (.agg [.int .i64 r1, .int .i64 r2]), .val 59 2 2 (.bool false)] = some ({ e := .ret, ts := [.bool false], s := { h := { bs := [], len := 0, esc := none, wr := [] }, nx := 4 } }, [], [.pure [] 94 [.int .u8 k] (.agg [.int .i64 r1, .int .i64 r2]), .val (some (.bool (decide (x ≥ 0)))) (.bool false)]) := by kernel_rfl
theorem pmay_1 (k x y r1 r2 : Int) : runX Tryz.prog none_ 60 59 (.call 59 [.agg [.int .u8 k, .int .i64 x, .int .i64 y]] (startS Tryz.prog [])) [.pure 59 1 2 [] (.agg [.int .i64 r1, .int .i64 r2]), .val 59 2 2 (.bool true), .val 59 2 8 (.bool false)] = some ({ e := .ret, ts := [.bool false], s := { h := { bs := [], len := 0, esc := none, wr := [] }, nx := 4 } }, [], [.pure [] 94 [.int .u8 k] (.agg [.int .i64 r1, .int .i64 r2]), .val (some (.bool (decide (x ≥ 0)))) (.bool true), .val (some (.bool (decide (x < r1)))) (.bool false)]) := by kernel_rfl
theorem pmay_2 (k x y r1 r2 : Int) : runX Tryz.prog none_ 60 59 (.call 59 [.agg [.int .u8 k, .int .i64 x, .int .i64 y]] (startS Tryz.prog [])) [.pure 59 1 2 [] (.agg [.int .i64 r1, .int .i64 r2]), .val 59 2 2 (.bool true), .val 59 2 8 (.bool true), .val 59 2 13 (.bool false)] = some ({ e := .ret, ts := [.bool false], s := { h := { bs := [], len := 0, esc := none, wr := [] }, nx := 4 } }, [], [.pure [] 94 [.int .u8 k] (.agg [.int .i64 r1, .int .i64 r2]), .val (some (.bool (decide (x ≥ 0)))) (.bool true), .val (some (.bool (decide (x < r1)))) (.bool true), .val (some (.bool (decide (y ≥ 0)))) (.bool false)]) := by kernel_rfl
theorem pmay_3 (k x y r1 r2 : Int) : runX Tryz.prog none_ 60 59 (.call 59 [.agg [.int .u8 k, .int .i64 x, .int .i64 y]] (startS Tryz.prog [])) [.pure 59 1 2 [] (.agg [.int .i64 r1, .int .i64 r2]), .val 59 2 2 (.bool true), .val 59 2 8 (.bool true), .val 59 2 13 (.bool true), .val 59 2 20 (.bool false)] = some ({ e := .ret, ts := [.bool false], s := { h := { bs := [], len := 0, esc := none, wr := [] }, nx := 4 } }, [], [.pure [] 94 [.int .u8 k] (.agg [.int .i64 r1, .int .i64 r2]), .val (some (.bool (decide (x ≥ 0)))) (.bool true), .val (some (.bool (decide (x < r1)))) (.bool true), .val (some (.bool (decide (y ≥ 0)))) (.bool true), .val (some (.bool (decide (y < r2)))) (.bool false)]) := by kernel_rfl
theorem pmay_4 (k x y r1 r2 : Int) : runX Tryz.prog none_ 60 59 (.call 59 [.agg [.int .u8 k, .int .i64 x, .int .i64 y]] (startS Tryz.prog [])) [.pure 59 1 2 [] (.agg [.int .i64 r1, .int .i64 r2]), .val 59 2 2 (.bool true), .val 59 2 8 (.bool true), .val 59 2 13 (.bool true), .val 59 2 20 (.bool true)] = some ({ e := .ret, ts := [.bool true], s := { h := { bs := [], len := 0, esc := none, wr := [] }, nx := 4 } }, [], [.pure [] 94 [.int .u8 k] (.agg [.int .i64 r1, .int .i64 r2]), .val (some (.bool (decide (x ≥ 0)))) (.bool true), .val (some (.bool (decide (x < r1)))) (.bool true), .val (some (.bool (decide (y ≥ 0)))) (.bool true), .val (some (.bool (decide (y < r2)))) (.bool true)]) := by kernel_rfl
theorem pload (k x y st : Int) (l0 l1 l2 l3 l4 l5 l6 : AV) (om _ _ : AObj) (v _ _ _ : Nat) : runX Tryz.prog none_ 60 23 (.call 23 [.ptr 4 0, .agg [.int .u8 k, .int .i64 x, .int .i64 y]] ⟨⟨[(4, .cells false [.map 5, .int .i64 st, l0, l1, l2, l3, l4, l5, l6]), (5, om)], 2, none, []⟩, 6⟩) [.val 29 4 5 (.int .u64 (Int.ofNat v))] = some ({ e := .ret, ts := [.int .u64 (Int.ofNat v)], s := { h := { bs := [(4, .cells false [AV.map 5, .int .i64 (IntKind.i64.wrap (st + Int.ofNat 1)), .int .u8 (Int.ofNat 1), .int .u8 k, .int .i64 x, .int .i64 y, .int .u64 (Int.ofNat v), .int .u64 (Int.ofNat v), .bool false]), (5, om)], len := 2, esc := none, wr := [4, 4] }, nx := 9 } }, [], [.lk 101 { h := { bs := [(8, .cells false [.int .u8 (Int.ofNat 0), .int .u8 (Int.ofNat 0), .int .i64 (Int.ofNat 0), .int .i64 (Int.ofNat 0), .int .u64 (Int.ofNat 0), .int .u64 (Int.ofNat 0), .bool false]), (7, .cells false [.int .u8 k, .int .i64 x, .int .i64 y]), (6, .cells false [.int .u8 k, .int .i64 x, .int .i64 y]), (4, .cells false [AV.map 5, .int .i64 (IntKind.i64.wrap (st + Int.ofNat 1)), l0, l1, l2, l3, l4, l5, l6]), (5, om)], len := 5, esc := none, wr := [4] }, nx := 9 } (AV.map 5) (.agg [.int .u8 k, .int .i64 x, .int .i64 y]) false (.int .u64 (Int.ofNat v))]) := by kernel_rfl
theorem pstore_n (k x y st : Int) (l0 l1 l2 l3 l4 l5 l6 : AV) (om _ _ : AObj) (v u _ _ : Nat) : runX Tryz.prog none_ 60 8 (.call 8 [.ptr 4 0, .agg [.int .u8 k, .int .i64 x, .int .i64 y], .int .u64 (Int.ofNat u)] ⟨⟨[(4, .cells false [.map 5, .int .i64 st, l0, l1, l2, l3, l4, l5, l6]), (5, om)], 2, none, []⟩, 6⟩) [.val 29 4 5 (.int .u64 (Int.ofNat v)), .pure 29 7 3 [] (.bool false)] = some ({ e := .ret, ts := [.tuple []], s := { h := { bs := [(4, .cells false [AV.map 5, .int .i64 (IntKind.i64.wrap (st + Int.ofNat 1)), .int .u8 (Int.ofNat 2), .int .u8 k, .int .i64 x, .int .i64 y, .int .u64 (Int.ofNat v), .int .u64 (Int.ofNat v), .bool false]), (5, om)], len := 2, esc := none, wr := [4, 4] }, nx := 10 } }, [], [.lk 101 { h := { bs := [(9, .cells false [.int .u8 (Int.ofNat 0), .int .u8 (Int.ofNat 0), .int .i64 (Int.ofNat 0), .int .i64 (Int.ofNat 0), .int .u64 (Int.ofNat 0), .int .u64 (Int.ofNat 0), .bool false]), (8, .cells false [.int .u8 k, .int .i64 x, .int .i64 y]), (7, .cells false [.int .u64 (Int.ofNat u)]), (6, .cells false [.int .u8 k, .int .i64 x, .int .i64 y]), (4, .cells false [AV.map 5, .int .i64 (IntKind.i64.wrap (st + Int.ofNat 1)), l0, l1, l2, l3, l4, l5, l6]), (5, om)], len := 6, esc := none, wr := [4] }, nx := 10 } (AV.map 5) (.agg [.int .u8 k, .int .i64 x, .int .i64 y]) false (.int .u64 (Int.ofNat v)), .pure [] 59 [.agg [.int .u8 k, .int .i64 x, .int .i64 y]] (.bool false)]) := by kernel_rfl
theorem pstore_y (k x y st : Int) (l0 l1 l2 l3 l4 l5 l6 : AV) (om om2 om3 : AObj) (v u z n : Nat) : runX Tryz.prog none_ 60 8 (.call 8 [.ptr 4 0, .agg [.int .u8 k, .int .i64 x, .int .i64 y], .int .u64 (Int.ofNat u)] ⟨⟨[(4, .cells false [.map 5, .int .i64 st, l0, l1, l2, l3, l4, l5, l6]), (5, om)], 2, none, []⟩, 6⟩) [.val 29 4 5 (.int .u64 (Int.ofNat v)), .pure 29 7 3 [] (.bool true), .eff 29 8 11 (.tuple [.int .u64 (Int.ofNat z), .int .i64 (Int.ofNat n)]) (fun s => s.set 5 om2), .eff 29 8 13 undefA (fun s => s.set 5 om3)] = some ({ e := .ret, ts := [.tuple []], s := { h := { bs := [(4, .cells false [AV.map 5, .int .i64 (IntKind.i64.wrap (st + Int.ofNat 1)), .int .u8 (Int.ofNat 2), .int .u8 k, .int .i64 x, .int .i64 y, .int .u64 (Int.ofNat v), .int .u64 (Int.ofNat u), .bool false]), (5, om3)], len := 2, esc := none, wr := [4, 4, 5, 5, 4, 4] }, nx := 10 } }, [], [.lk 101 { h := { bs := [(9, .cells false [.int .u8 (Int.ofNat 0), .int .u8 (Int.ofNat 0), .int .i64 (Int.ofNat 0), .int .i64 (Int.ofNat 0), .int .u64 (Int.ofNat 0), .int .u64 (Int.ofNat 0), .bool false]), (8, .cells false [.int .u8 k, .int .i64 x, .int .i64 y]), (7, .cells false [.int .u64 (Int.ofNat u)]), (6, .cells false [.int .u8 k, .int .i64 x, .int .i64 y]), (4, .cells false [AV.map 5, .int .i64 (IntKind.i64.wrap (st + Int.ofNat 1)), l0, l1, l2, l3, l4, l5, l6]), (5, om)], len := 6, esc := none, wr := [4] }, nx := 10 } (AV.map 5) (.agg [.int .u8 k, .int .i64 x, .int .i64 y]) false (.int .u64 (Int.ofNat v)), .pure [] 59 [.agg [.int .u8 k, .int .i64 x, .int .i64 y]] (.bool true), .ent { h := { bs := [(9, .cells false [.int .u8 (Int.ofNat 0), .int .u8 (Int.ofNat 0), .int .i64 (Int.ofNat 0), .int .i64 (Int.ofNat 0), .int .u64 (Int.ofNat 0), .int .u64 (Int.ofNat 0), .bool false]), (8, .cells false [.int .u8 k, .int .i64 x, .int .i64 y]), (7, .cells false [.int .u64 (Int.ofNat u)]), (6, .cells false [.int .u8 k, .int .i64 x, .int .i64 y]), (4, .cells false [AV.map 5, .int .i64 (IntKind.i64.wrap (st + Int.ofNat 1)), .int .u8 (Int.ofNat 2), .int .u8 k, .int .i64 x, .int .i64 y, .int .u64 (Int.ofNat v), .int .u64 (Int.ofNat v), .bool false]), (5, om)], len := 6, esc := none, wr := [4, 4] }, nx := 10 } 101 (AV.map 5) (.agg [.int .u8 k, .int .i64 x, .int .i64 y]) (.tuple [.int .u64 (Int.ofNat z), .int .i64 (Int.ofNat n)]) { h := { bs := [(9, .cells false [.int .u8 (Int.ofNat 0), .int .u8 (Int.ofNat 0), .int .i64 (Int.ofNat 0), .int .i64 (Int.ofNat 0), .int .u64 (Int.ofNat 0), .int .u64 (Int.ofNat 0), .bool false]), (8, .cells false [.int .u8 k, .int .i64 x, .int .i64 y]), (7, .cells false [.int .u64 (Int.ofNat u)]), (6, .cells false [.int .u8 k, .int .i64 x, .int .i64 y]), (4, .cells false [AV.map 5, .int .i64 (IntKind.i64.wrap (st + Int.ofNat 1)), .int .u8 (Int.ofNat 2), .int .u8 k, .int .i64 x, .int .i64 y, .int .u64 (Int.ofNat v), .int .u64 (Int.ofNat v), .bool false]), (5, om2)], len := 6, esc := none, wr := [5, 4, 4] }, nx := 10 }, .est { h := { bs := [(9, .cells false [.int .u8 (Int.ofNat 0), .int .u8 (Int.ofNat 0), .int .i64 (Int.ofNat 0), .int .i64 (Int.ofNat 0), .int .u64 (Int.ofNat 0), .int .u64 (Int.ofNat 0), .bool false]), (8, .cells false [.int .u8 k, .int .i64 x, .int .i64 y]), (7, .cells false [.int .u64 (Int.ofNat u)]), (6, .cells false [.int .u8 k, .int .i64 x, .int .i64 y]), (4, .cells false [AV.map 5, .int .i64 (IntKind.i64.wrap (st + Int.ofNat 1)), .int .u8 (Int.ofNat 2), .int .u8 k, .int .i64 x, .int .i64 y, .int .u64 (Int.ofNat v), .int .u64 (Int.ofNat v), .bool false]), (5, om2)], len := 6, esc := none, wr := [5, 4, 4] }, nx := 10 } (AV.map 5) (.int .i64 (Int.ofNat n)) (.int .u64 (Int.ofNat u)) (.tuple []) { h := { bs := [(9, .cells false [.int .u8 (Int.ofNat 0), .int .u8 (Int.ofNat 0), .int .i64 (Int.ofNat 0), .int .i64 (Int.ofNat 0), .int .u64 (Int.ofNat 0), .int .u64 (Int.ofNat 0), .bool false]), (8, .cells false [.int .u8 k, .int .i64 x, .int .i64 y]), (7, .cells false [.int .u64 (Int.ofNat u)]), (6, .cells false [.int .u8 k, .int .i64 x, .int .i64 y]), (4, .cells false [AV.map 5, .int .i64 (IntKind.i64.wrap (st + Int.ofNat 1)), .int .u8 (Int.ofNat 2), .int .u8 k, .int .i64 x, .int .i64 y, .int .u64 (Int.ofNat v), .int .u64 (Int.ofNat v), .bool false]), (5, om3)], len := 6, esc := none, wr := [5, 5, 4, 4] }, nx := 10 }]) := by kernel_rfl
theorem pcas_o (k x y st : Int) (l0 l1 l2 l3 l4 l5 l6 : AV) (om _ _ : AObj) (v u _ _ w : Nat) : runX Tryz.prog none_ 60 111 (.call 111 [.ptr 4 0, .agg [.int .u8 k, .int .i64 x, .int .i64 y], .int .u64 (Int.ofNat w), .int .u64 (Int.ofNat u)] ⟨⟨[(4, .cells false [.map 5, .int .i64 st, l0, l1, l2, l3, l4, l5, l6]), (5, om)], 2, none, []⟩, 6⟩) [.val 29 4 5 (.int .u64 (Int.ofNat v)), .val 123 1 3 (.bool false)] = some ({ e := .ret, ts := [.bool false], s := { h := { bs := [(4, .cells false [AV.map 5, .int .i64 (IntKind.i64.wrap (st + Int.ofNat 1)), .int .u8 (Int.ofNat 3), .int .u8 k, .int .i64 x, .int .i64 y, .int .u64 (Int.ofNat v), .int .u64 (Int.ofNat v), .bool false]), (5, om)], len := 2, esc := none, wr := [4, 4] }, nx := 11 } }, [], [.lk 101 { h := { bs := [(10, .cells false [.int .u8 (Int.ofNat 0), .int .u8 (Int.ofNat 0), .int .i64 (Int.ofNat 0), .int .i64 (Int.ofNat 0), .int .u64 (Int.ofNat 0), .int .u64 (Int.ofNat 0), .bool false]), (9, .cells false [.int .u8 k, .int .i64 x, .int .i64 y]), (8, .cells false [.int .u64 (Int.ofNat u)]), (7, .cells false [.int .u64 (Int.ofNat w)]), (6, .cells false [.int .u8 k, .int .i64 x, .int .i64 y]), (4, .cells false [AV.map 5, .int .i64 (IntKind.i64.wrap (st + Int.ofNat 1)), l0, l1, l2, l3, l4, l5, l6]), (5, om)], len := 7, esc := none, wr := [4] }, nx := 11 } (AV.map 5) (.agg [.int .u8 k, .int .i64 x, .int .i64 y]) false (.int .u64 (Int.ofNat v)), .val (some (.bool (Int.ofNat v == Int.ofNat w))) (.bool false)]) := by kernel_rfl
theorem pcas_n (k x y st : Int) (l0 l1 l2 l3 l4 l5 l6 : AV) (om _ _ : AObj) (v u _ _ w : Nat) : runX Tryz.prog none_ 60 111 (.call 111 [.ptr 4 0, .agg [.int .u8 k, .int .i64 x, .int .i64 y], .int .u64 (Int.ofNat w), .int .u64 (Int.ofNat u)] ⟨⟨[(4, .cells false [.map 5, .int .i64 st, l0, l1, l2, l3, l4, l5, l6]), (5, om)], 2, none, []⟩, 6⟩) [.val 29 4 5 (.int .u64 (Int.ofNat v)), .val 123 1 3 (.bool true), .pure 29 7 3 [] (.bool false)] = some ({ e := .ret, ts := [.bool false], s := { h := { bs := [(4, .cells false [AV.map 5, .int .i64 (IntKind.i64.wrap (st + Int.ofNat 1)), .int .u8 (Int.ofNat 3), .int .u8 k, .int .i64 x, .int .i64 y, .int .u64 (Int.ofNat v), .int .u64 (Int.ofNat v), .bool false]), (5, om)], len := 2, esc := none, wr := [4, 4] }, nx := 11 } }, [], [.lk 101 { h := { bs := [(10, .cells false [.int .u8 (Int.ofNat 0), .int .u8 (Int.ofNat 0), .int .i64 (Int.ofNat 0), .int .i64 (Int.ofNat 0), .int .u64 (Int.ofNat 0), .int .u64 (Int.ofNat 0), .bool false]), (9, .cells false [.int .u8 k, .int .i64 x, .int .i64 y]), (8, .cells false [.int .u64 (Int.ofNat u)]), (7, .cells false [.int .u64 (Int.ofNat w)]), (6, .cells false [.int .u8 k, .int .i64 x, .int .i64 y]), (4, .cells false [AV.map 5, .int .i64 (IntKind.i64.wrap (st + Int.ofNat 1)), l0, l1, l2, l3, l4, l5, l6]), (5, om)], len := 7, esc := none, wr := [4] }, nx := 11 } (AV.map 5) (.agg [.int .u8 k, .int .i64 x, .int .i64 y]) false (.int .u64 (Int.ofNat v)), .val (some (.bool (Int.ofNat v == Int.ofNat w))) (.bool true), .pure [] 59 [.agg [.int .u8 k, .int .i64 x, .int .i64 y]] (.bool false)]) := by kernel_rfl
theorem pcas_y (k x y st : Int) (l0 l1 l2 l3 l4 l5 l6 : AV) (om om2 om3 : AObj) (v u z n w : Nat) : runX Tryz.prog none_ 60 111 (.call 111 [.ptr 4 0, .agg [.int .u8 k, .int .i64 x, .int .i64 y], .int .u64 (Int.ofNat w), .int .u64 (Int.ofNat u)] ⟨⟨[(4, .cells false [.map 5, .int .i64 st, l0, l1, l2, l3, l4, l5, l6]), (5, om)], 2, none, []⟩, 6⟩) [.val 29 4 5 (.int .u64 (Int.ofNat v)), .val 123 1 3 (.bool true), .pure 29 7 3 [] (.bool true), .eff 29 8 11 (.tuple [.int .u64 (Int.ofNat z), .int .i64 (Int.ofNat n)]) (fun s => s.set 5 om2), .eff 29 8 13 undefA (fun s => s.set 5 om3)] = some ({ e := .ret, ts := [.bool true], s := { h := { bs := [(4, .cells false [AV.map 5, .int .i64 (IntKind.i64.wrap (st + Int.ofNat 1)), .int .u8 (Int.ofNat 3), .int .u8 k, .int .i64 x, .int .i64 y, .int .u64 (Int.ofNat v), .int .u64 (Int.ofNat u), .bool true]), (5, om3)], len := 2, esc := none, wr := [4, 4, 5, 5, 4, 4] }, nx := 11 } }, [], [.lk 101 { h := { bs := [(10, .cells false [.int .u8 (Int.ofNat 0), .int .u8 (Int.ofNat 0), .int .i64 (Int.ofNat 0), .int .i64 (Int.ofNat 0), .int .u64 (Int.ofNat 0), .int .u64 (Int.ofNat 0), .bool false]), (9, .cells false [.int .u8 k, .int .i64 x, .int .i64 y]), (8, .cells false [.int .u64 (Int.ofNat u)]), (7, .cells false [.int .u64 (Int.ofNat w)]), (6, .cells false [.int .u8 k, .int .i64 x, .int .i64 y]), (4, .cells false [AV.map 5, .int .i64 (IntKind.i64.wrap (st + Int.ofNat 1)), l0, l1, l2, l3, l4, l5, l6]), (5, om)], len := 7, esc := none, wr := [4] }, nx := 11 } (AV.map 5) (.agg [.int .u8 k, .int .i64 x, .int .i64 y]) false (.int .u64 (Int.ofNat v)), .val (some (.bool (Int.ofNat v == Int.ofNat w))) (.bool true), .pure [] 59 [.agg [.int .u8 k, .int .i64 x, .int .i64 y]] (.bool true), .ent { h := { bs := [(10, .cells false [.int .u8 (Int.ofNat 0), .int .u8 (Int.ofNat 0), .int .i64 (Int.ofNat 0), .int .i64 (Int.ofNat 0), .int .u64 (Int.ofNat 0), .int .u64 (Int.ofNat 0), .bool false]), (9, .cells false [.int .u8 k, .int .i64 x, .int .i64 y]), (8, .cells false [.int .u64 (Int.ofNat u)]), (7, .cells false [.int .u64 (Int.ofNat w)]), (6, .cells false [.int .u8 k, .int .i64 x, .int .i64 y]), (4, .cells false [AV.map 5, .int .i64 (IntKind.i64.wrap (st + Int.ofNat 1)), .int .u8 (Int.ofNat 3), .int .u8 k, .int .i64 x, .int .i64 y, .int .u64 (Int.ofNat v), .int .u64 (Int.ofNat v), .bool false]), (5, om)], len := 7, esc := none, wr := [4, 4] }, nx := 11 } 101 (AV.map 5) (.agg [.int .u8 k, .int .i64 x, .int .i64 y]) (.tuple [.int .u64 (Int.ofNat z), .int .i64 (Int.ofNat n)]) { h := { bs := [(10, .cells false [.int .u8 (Int.ofNat 0), .int .u8 (Int.ofNat 0), .int .i64 (Int.ofNat 0), .int .i64 (Int.ofNat 0), .int .u64 (Int.ofNat 0), .int .u64 (Int.ofNat 0), .bool false]), (9, .cells false [.int .u8 k, .int .i64 x, .int .i64 y]), (8, .cells false [.int .u64 (Int.ofNat u)]), (7, .cells false [.int .u64 (Int.ofNat w)]), (6, .cells false [.int .u8 k, .int .i64 x, .int .i64 y]), (4, .cells false [AV.map 5, .int .i64 (IntKind.i64.wrap (st + Int.ofNat 1)), .int .u8 (Int.ofNat 3), .int .u8 k, .int .i64 x, .int .i64 y, .int .u64 (Int.ofNat v), .int .u64 (Int.ofNat v), .bool false]), (5, om2)], len := 7, esc := none, wr := [5, 4, 4] }, nx := 11 }, .est { h := { bs := [(10, .cells false [.int .u8 (Int.ofNat 0), .int .u8 (Int.ofNat 0), .int .i64 (Int.ofNat 0), .int .i64 (Int.ofNat 0), .int .u64 (Int.ofNat 0), .int .u64 (Int.ofNat 0), .bool false]), (9, .cells false [.int .u8 k, .int .i64 x, .int .i64 y]), (8, .cells false [.int .u64 (Int.ofNat u)]), (7, .cells false [.int .u64 (Int.ofNat w)]), (6, .cells false [.int .u8 k, .int .i64 x, .int .i64 y]), (4, .cells false [AV.map 5, .int .i64 (IntKind.i64.wrap (st + Int.ofNat 1)), .int .u8 (Int.ofNat 3), .int .u8 k, .int .i64 x, .int .i64 y, .int .u64 (Int.ofNat v), .int .u64 (Int.ofNat v), .bool false]), (5, om2)], len := 7, esc := none, wr := [5, 4, 4] }, nx := 11 } (AV.map 5) (.int .i64 (Int.ofNat n)) (.int .u64 (Int.ofNat u)) (.tuple []) { h := { bs := [(10, .cells false [.int .u8 (Int.ofNat 0), .int .u8 (Int.ofNat 0), .int .i64 (Int.ofNat 0), .int .i64 (Int.ofNat 0), .int .u64 (Int.ofNat 0), .int .u64 (Int.ofNat 0), .bool false]), (9, .cells false [.int .u8 k, .int .i64 x, .int .i64 y]), (8, .cells false [.int .u64 (Int.ofNat u)]), (7, .cells false [.int .u64 (Int.ofNat w)]), (6, .cells false [.int .u8 k, .int .i64 x, .int .i64 y]), (4, .cells false [AV.map 5, .int .i64 (IntKind.i64.wrap (st + Int.ofNat 1)), .int .u8 (Int.ofNat 3), .int .u8 k, .int .i64 x, .int .i64 y, .int .u64 (Int.ofNat v), .int .u64 (Int.ofNat v), .bool false]), (5, om3)], len := 7, esc := none, wr := [5, 5, 4, 4] }, nx := 11 }]) := by kernel_rfl
end Go.Proofs.YtofbdgmknfbkfaaGreatDoor.nodesLife
namespace Go.Proofs.YtofbdgmknfbkfaaGreatDoor.nodesLife
open Go Go.Mini
/-! ### memory, plainly: words by their addresses -/
abbrev A3 := Int × Int × Int
abbrev MS := List (A3 × Nat)
def ak (a : A3) : List AV := [.int .u8 a.1, .int .i64 a.2.1, .int .i64 a.2.2]
def getW : MS → A3 → Nat
  | [], _ => 0
  | x :: t, a => if a = x.1 then x.2 else getW t a
def hasW : MS → A3 → Bool
  | [], _ => false
  | x :: t, a => if a = x.1 then true else hasW t a
def idxW : MS → A3 → Nat
  | [], _ => 0
  | x :: t, a => if a = x.1 then 0 else idxW t a + 1
def putW : MS → A3 → Nat → MS
  | [], a, v => [(a, v)]
  | x :: t, a, v => if a = x.1 then (a, v) :: t else x :: putW t a v
theorem get_none {a : A3} : ∀ {ms : MS}, hasW ms a = false → getW ms a = 0
  | [], _ => rfl
  | x :: t, h => by
    simp only [hasW, getW] at h ⊢
    split at h
    · cases h
    · rename_i hn
      rw [if_neg hn]
      exact get_none h
theorem put_len {a : A3} {v : Nat} : ∀ {ms : MS}, (putW ms a v).length = if hasW ms a then ms.length else ms.length + 1
  | [] => rfl
  | x :: t => by
    simp only [hasW, putW]
    split
    · rfl
    · rw [List.length_cons, put_len]
      split <;> simp
theorem idx_le {a : A3} : ∀ {ms : MS}, if hasW ms a then idxW ms a < ms.length else idxW ms a = ms.length
  | [] => rfl
  | x :: t => by
    have ih := @idx_le a t
    simp only [hasW, idxW]
    by_cases h : a = x.1
    · simp [h]
    · simp only [h, if_false]
      split <;> rename_i h2 <;> simp only [h2, if_true, if_false, Bool.false_eq_true] at ih <;> simp <;> omega
theorem put_has {a : A3} {v : Nat} : ∀ {ms : MS}, hasW (putW ms a v) a = true
  | [] => by simp [putW, hasW]
  | x :: t => by
    simp only [putW]
    by_cases h : a = x.1
    · simp [h, hasW]
    · simp only [if_neg h, hasW]
      exact put_has
theorem put_idx {a : A3} {v : Nat} : ∀ {ms : MS}, idxW (putW ms a v) a = idxW ms a
  | [] => by simp [putW, idxW]
  | x :: t => by
    simp only [putW]
    by_cases h : a = x.1
    · simp [h, idxW]
    · simp only [if_neg h, idxW]
      rw [put_idx]
theorem put_put {a : A3} {u v : Nat} : ∀ {ms : MS}, putW (putW ms a u) a v = putW ms a v
  | [] => by simp [putW]
  | x :: t => by
    simp only [putW]
    by_cases h : a = x.1
    · simp [h, putW]
    · simp only [if_neg h, putW]
      rw [put_put]
theorem put_new {a : A3} {v : Nat} : ∀ {ms : MS}, hasW ms a = false → putW ms a v = ms ++ [(a, v)]
  | [], _ => rfl
  | x :: t, h => by
    simp only [hasW, putW] at h ⊢
    by_cases hx : a = x.1
    · simp [hx] at h
    · simp only [if_neg hx] at h ⊢
      rw [put_new h]
      rfl
/-! ### the program's map of words -/
def mapA (ms : MS) : List (AV × AV) := ms.map fun x => (.agg (ak x.1), .int .u64 (Int.ofNat x.2))
def mapO (ms : MS) : AObj := .map (mapA ms) (List.range ms.length) ms.length
theorem eq_bif (s : AS) (_ : Nat) (a1 a2 a3 b1 b2 b3 : Int) : eqA Tryz.prog s 8 38 (.agg [.int .u8 a1, .int .i64 a2, .int .i64 a3]) (.agg [.int .u8 b1, .int .i64 b2, .int .i64 b3]) =
    (bif a1 == b1 then (bif a2 == b2 then (bif a3 == b3 then some true else some false) else some false) else some false) := by kernel_rfl
theorem eqK (s : AS) (a b : A3) : eqA Tryz.prog s 8 38 (.agg (ak a)) (.agg (ak b)) = some (decide (a = b)) := by
  obtain ⟨a1, a2, a3⟩ := a
  obtain ⟨b1, b2, b3⟩ := b
  refine (eq_bif s 0 a1 a2 a3 b1 b2 b3).trans ?_
  by_cases h1 : a1 = b1
  · by_cases h2 : a2 = b2
    · by_cases h3 : a3 = b3
      · simp [h1, h2, h3]
      · have : (a3 == b3) = false := by simpa using h3
        simp [h1, h2, h3, this]
    · have : (a2 == b2) = false := by simpa using h2
      simp [h1, h2, this]
  · have : (a1 == b1) = false := by simpa using h1
    simp [h1, this]
theorem find_mapA (s : AS) (a : A3) : ∀ (ms : MS) (i : Nat), findA Tryz.prog s 38 (.agg (ak a)) (mapA ms) i = if hasW ms a then some (some (i + idxW ms a, .agg (ak a), .int .u64 (Int.ofNat (getW ms a)))) else some none
  | [], _ => rfl
  | x :: t, i => by
    have he := eqK s a x.1
    by_cases h : a = x.1
    · have hd : decide (a = x.1) = true := by simpa using h
      rw [hd] at he
      rw [show mapA (x :: t) = (.agg (ak x.1), .int .u64 (Int.ofNat x.2)) :: mapA t from rfl]
      simp only [findA, he, hasW, getW, idxW, if_pos h, if_true, Nat.add_zero]
      rw [← h]
    · have hd : decide (a = x.1) = false := by simpa using h
      rw [hd] at he
      rw [show mapA (x :: t) = (.agg (ak x.1), .int .u64 (Int.ofNat x.2)) :: mapA t from rfl]
      simp only [findA, he, hasW, getW, idxW, if_neg h]
      rw [find_mapA s a t (i + 1), show i + 1 + idxW t a = i + (idxW t a + 1) from by omega]
theorem set_mapA (a : A3) (v : Nat) : ∀ ms : MS, hasW ms a = true → setAt (mapA ms) (idxW ms a) (.agg (ak a), .int .u64 (Int.ofNat v)) = mapA (putW ms a v)
  | [], h => by cases h
  | x :: t, h => by
    rw [show mapA (x :: t) = (.agg (ak x.1), .int .u64 (Int.ofNat x.2)) :: mapA t from rfl]
    by_cases hx : a = x.1
    · simp only [idxW, putW, if_pos hx, setAt]
      rfl
    · simp only [hasW, if_neg hx] at h
      simp only [idxW, putW, if_neg hx, setAt]
      rw [set_mapA a v t h]
      rfl
theorem stamp_range (n : Nat) : ∀ (m k : Nat), k ≤ n → n < k + m → stampAt n (List.range' k m) k = some n
  | 0, k, h1, h2 => by omega
  | m + 1, k, h1, h2 => by
    simp only [List.range'_succ, stampAt]
    by_cases h : k = n
    · subst h
      simp
    · have : Nat.beq k n = false := by
        cases hb : Nat.beq k n with
        | false => rfl
        | true => exact absurd (Nat.eq_of_beq_eq_true hb) h
      rw [this]
      exact stamp_range n m (k + 1) (by omega) (by omega)
theorem stamp_of {n m : Nat} (h : n < m) : stampAt n (List.range m) 0 = some n := by
  rw [List.range_eq_range']
  exact stamp_range n m 0 (Nat.zero_le _) (by omega)
theorem uMap : Tryz.prog.underlying 101 = some (.map 38 31) := by kernel_rfl
theorem zU : zeroA Tryz.prog 31 = some (.int .u64 0) := by kernel_rfl
theorem keyK (a : A3) : keyA Tryz.prog 4 38 (.agg (ak a)) = true := by
  obtain ⟨a1, a2, a3⟩ := a
  show keyA Tryz.prog 4 38 (.agg [.int .u8 a1, .int .i64 a2, .int .i64 a3]) = true
  kernel_rfl
theorem bitK (a : A3) : bitEq (.agg (ak a)) (.agg (ak a)) = true := by
  obtain ⟨a1, a2, a3⟩ := a
  simp [ak, bitEq, bitEqs, bitEq1]
theorem lk_mapA {s : AS} {b : Nat} {ms : MS} (a : A3) (hs : s.get b = some (mapO ms)) : lookupA Tryz.prog s 101 (.map b) (.agg (ak a)) false = some (.int .u64 (Int.ofNat (getW ms a))) := by
  simp only [lookupA, uMap, keyK, if_true, mapOf, hs, mapO, find_mapA, zU]
  by_cases h : hasW ms a = true
  · simp only [h, if_true]
    rfl
  · have h : hasW ms a = false := by simpa using h
    simp only [h, if_false, Bool.false_eq_true, get_none h]
    rfl
theorem ent_mapA {s : AS} {b : Nat} {ms : MS} (a : A3) (hs : s.get b = some (mapO ms)) : entryA Tryz.prog s 101 (.map b) (.agg (ak a)) = some (.int .u64 (Int.ofNat (getW ms a)), idxW ms a, s.set b (mapO (putW ms a (getW ms a)))) := by
  have hi := @idx_le a ms
  simp only [entryA, uMap, keyK, if_true, mapAt, hs, mapO, find_mapA, zU]
  by_cases h : hasW ms a = true
  · simp only [h, if_true] at hi
    have hl : (putW ms a (getW ms a)).length = ms.length := by rw [put_len, h]; rfl
    have hr : (List.range ms.length)[idxW ms a]? = some (idxW ms a) := by simp [hi]
    simp only [h, if_true, bitK, Bool.not_true, Bool.false_eq_true, if_false, Nat.zero_add, hr, hl, set_mapA a _ ms h]
  · have h : hasW ms a = false := by simpa using h
    simp only [h, Bool.false_eq_true, if_false] at hi ⊢
    have hl : (putW ms a (getW ms a)).length = ms.length + 1 := by rw [put_len, h]; rfl
    rw [hl, hi, List.range_succ, put_new h, get_none h]
    simp only [mapA, List.map_append, List.map_cons, List.map_nil]
    rfl
theorem est_mapA {s : AS} {b : Nat} {ms : MS} (a : A3) (v : Nat) (h : hasW ms a = true) (hs : s.get b = some (mapO ms)) : entryStoreA s (.map b) (.int .i64 (Int.ofNat (idxW ms a))) (.int .u64 (Int.ofNat v)) = some (s.set b (mapO (putW ms a v))) := by
  have hi := @idx_le a ms
  simp only [h, if_true] at hi
  have hl : (putW ms a v).length = ms.length := by rw [put_len, h]; rfl
  have hk : ∃ x, (mapA ms)[idxW ms a]? = some (.agg (ak a), x) := by
    have : ∀ ms : MS, hasW ms a = true → ∃ x, (mapA ms)[idxW ms a]? = some (.agg (ak a), x) := by
      intro ms
      induction ms with
      | nil => intro h; cases h
      | cons x t ih =>
        intro h
        rw [show mapA (x :: t) = (.agg (ak x.1), .int .u64 (Int.ofNat x.2)) :: mapA t from rfl]
        by_cases hx : a = x.1
        · simp only [idxW, if_pos hx]
          exact ⟨_, by rw [hx]; rfl⟩
        · simp only [hasW, if_neg hx] at h
          simp only [idxW, if_neg hx]
          exact ih h
    exact this ms h
  obtain ⟨x, hx⟩ := hk
  simp only [entryStoreA, mapAt, hs, mapO, stamp_of hi, hx, hl, AV.young, noteEsc, Bool.false_eq_true, if_false, set_mapA a v ms h]
/-! ### which addresses may be -/
def rmK (k : Int) : Int × Int := if k = 6 then (32, 2) else if k = 7 then (4, 1) else if k = 8 then (16, 10) else if k = 9 then (256, 8) else if k = 10 then (9, 1) else if k = 11 then (1, 2) else if 0 ≤ k ∧ k ≤ 5 then (1, 1) else (0, 0)
def inR (r : Int × Int) (a : A3) : Bool := decide (0 ≤ a.2.1) && decide (a.2.1 < r.1) && decide (0 ≤ a.2.2) && decide (a.2.2 < r.2)
def mayA (a : A3) : Bool := inR (rmK a.1) a
theorem rooms_call (k : Int) (h0 : 0 ≤ k) (s : AS) : Sound Tryz.prog (.call 94 [.int .u8 k] s) ⟨.ret, [.agg [.int .i64 (rmK k).1, .int .i64 (rmK k).2]], s⟩ := by
  have hc : k = 0 ∨ k = 1 ∨ k = 2 ∨ k = 3 ∨ k = 4 ∨ k = 5 ∨ k = 6 ∨ k = 7 ∨ k = 8 ∨ k = 9 ∨ k = 10 ∨ k = 11 ∨ 12 ≤ k := by omega
  rcases hc with rfl | rfl | rfl | rfl | rfl | rfl | rfl | rfl | rfl | rfl | rfl | rfl | h
  · exact Sound.pure (G := []) (runX_sound mixed none_sound rooms_0 trivial) rfl rfl rfl rfl
  · exact Sound.pure (G := []) (runX_sound mixed none_sound rooms_1 trivial) rfl rfl rfl rfl
  · exact Sound.pure (G := []) (runX_sound mixed none_sound rooms_2 trivial) rfl rfl rfl rfl
  · exact Sound.pure (G := []) (runX_sound mixed none_sound rooms_3 trivial) rfl rfl rfl rfl
  · exact Sound.pure (G := []) (runX_sound mixed none_sound rooms_4 trivial) rfl rfl rfl rfl
  · exact Sound.pure (G := []) (runX_sound mixed none_sound rooms_5 trivial) rfl rfl rfl rfl
  · exact Sound.pure (G := []) (runX_sound mixed none_sound rooms_6 trivial) rfl rfl rfl rfl
  · exact Sound.pure (G := []) (runX_sound mixed none_sound rooms_7 trivial) rfl rfl rfl rfl
  · exact Sound.pure (G := []) (runX_sound mixed none_sound rooms_8 trivial) rfl rfl rfl rfl
  · exact Sound.pure (G := []) (runX_sound mixed none_sound rooms_9 trivial) rfl rfl rfl rfl
  · exact Sound.pure (G := []) (runX_sound mixed none_sound rooms_10 trivial) rfl rfl rfl rfl
  · exact Sound.pure (G := []) (runX_sound mixed none_sound rooms_11 trivial) rfl rfl rfl rfl
  · have e : rmK k = (0, 0) := by
      unfold rmK
      repeat (rw [if_neg (by omega)])
    rw [e]
    have q : ∀ n : Nat, n < 12 → some (AV.bool (k == Int.ofNat n)) = some (AV.bool false) := fun n hn => by
      have : (k == Int.ofNat n) = false := by simp; omega
      rw [this]
    exact Sound.pure (G := []) (runX_sound mixed none_sound (rooms_n k) ⟨q _ (by omega), q _ (by omega), q _ (by omega), q _ (by omega), q _ (by omega), q _ (by omega), q _ (by omega), q _ (by omega), q _ (by omega), q _ (by omega), q _ (by omega), q _ (by omega), trivial⟩) rfl rfl rfl rfl
theorem qeq (x y : Nat) (v : Bool) (h : v = decide (x = y)) : some (AV.bool (Int.ofNat x == Int.ofNat y)) = some (AV.bool v) := by
  subst h
  by_cases h : x = y
  · simp [h]
  · simp [h]
    omega
theorem q_ge {x n : Int} {v : Bool} (h : decide (n ≤ x) = v) : some (AV.bool (decide (x ≥ n))) = some (AV.bool v) := by subst h; rfl
theorem q_lt {x n : Int} {v : Bool} (h : decide (x < n) = v) : some (AV.bool (decide (x < n))) = some (AV.bool v) := by subst h; rfl
/-- The four tests, one behind the other. -/
theorem chain4 (r : Int × Int) (a : A3) : (decide (0 ≤ a.2.1) = false ∧ inR r a = false) ∨ (decide (0 ≤ a.2.1) = true ∧ decide (a.2.1 < r.1) = false ∧ inR r a = false) ∨ (decide (0 ≤ a.2.1) = true ∧ decide (a.2.1 < r.1) = true ∧ decide (0 ≤ a.2.2) = false ∧ inR r a = false) ∨
    (decide (0 ≤ a.2.1) = true ∧ decide (a.2.1 < r.1) = true ∧ decide (0 ≤ a.2.2) = true ∧ decide (a.2.2 < r.2) = false ∧ inR r a = false) ∨ (decide (0 ≤ a.2.1) = true ∧ decide (a.2.1 < r.1) = true ∧ decide (0 ≤ a.2.2) = true ∧ decide (a.2.2 < r.2) = true ∧ inR r a = true) := by
  unfold inR
  cases decide (0 ≤ a.2.1) <;> cases decide (a.2.1 < r.1) <;> cases decide (0 ≤ a.2.2) <;> cases decide (a.2.2 < r.2) <;> simp
theorem pmay_call (a : A3) (h0 : 0 ≤ a.1) (s : AS) : Sound Tryz.prog (.call 59 [.agg (ak a)] s) ⟨.ret, [.bool (mayA a)], s⟩ := by
  have hr : ∀ s, hasG s [] = true → _ := fun s _ => rooms_call a.1 h0 s
  unfold mayA
  rcases chain4 (rmK a.1) a with ⟨h1, e⟩ | ⟨h1, h2, e⟩ | ⟨h1, h2, h3, e⟩ | ⟨h1, h2, h3, h4, e⟩ | ⟨h1, h2, h3, h4, e⟩ <;> rw [e]
  · exact Sound.pure (G := []) (runX_sound mixed none_sound (pmay_0 a.1 a.2.1 a.2.2 _ _) ⟨hr, q_ge h1, trivial⟩) rfl rfl rfl rfl
  · exact Sound.pure (G := []) (runX_sound mixed none_sound (pmay_1 a.1 a.2.1 a.2.2 _ _) ⟨hr, q_ge h1, q_lt h2, trivial⟩) rfl rfl rfl rfl
  · exact Sound.pure (G := []) (runX_sound mixed none_sound (pmay_2 a.1 a.2.1 a.2.2 _ _) ⟨hr, q_ge h1, q_lt h2, q_ge h3, trivial⟩) rfl rfl rfl rfl
  · exact Sound.pure (G := []) (runX_sound mixed none_sound (pmay_3 a.1 a.2.1 a.2.2 _ _) ⟨hr, q_ge h1, q_lt h2, q_ge h3, q_lt h4, trivial⟩) rfl rfl rfl rfl
  · exact Sound.pure (G := []) (runX_sound mixed none_sound (pmay_4 a.1 a.2.1 a.2.2 _ _) ⟨hr, q_ge h1, q_lt h2, q_ge h3, q_lt h4, trivial⟩) rfl rfl rfl rfl
end Go.Proofs.YtofbdgmknfbkfaaGreatDoor.nodesLife
namespace Go.Proofs.YtofbdgmknfbkfaaGreatDoor.nodesLife
open Go Go.Mini
/-! ### what is so on a small heap of two blocks is so wherever they lie -/
theorem glN : Tryz.prog.globals.size = 2 := by kernel_rfl
def p45 (b c x : Nat) : Nat := if x = 4 then b else if x = 5 then c else x
section
variable {P : Program} {f : FuncId} {args vs : List AV} {e : AExit} {s : AS} {b bm : Nat} {X Y X' Y' : AObj}
theorem rec_first2 (h : Sound P (.call f args s) ⟨e, vs, (s.set b X).set bm Y⟩) (hm : s.get bm = some Y) (hne : b ≠ bm) : Sound P (.call f args s) ⟨e, vs, s.set b X⟩ :=
  Sound.recast h (fun c => by rw [get_set_same (s := s.set b X) (by rw [get_set_ne hne.symm]; exact hm)]) (by show (setB s.h.bs b X).map (·.1) = (setB (setB s.h.bs b X) bm Y).map (·.1); rw [setB_keys, setB_keys, setB_keys]) rfl rfl ⟨[b], rfl, fun c _ hc => get_set_ne (by simpa using hc)⟩
end
theorem pN_lt {a : List AV} {n : Nat} {l : List Nat} (h : namess (fun b => Nat.blt b n) a = true) : namess (pN n l) a = true := namess_sub (fun b hb => by unfold pN; rw [show Nat.blt b n = true from hb]; rfl) h
theorem putN {f : FuncId} {args : List AV} {r : AV} {c c' : List AV} {o o' : AObj} {s1 : AS} {e : AExit} (h : Sound Tryz.prog (.call f args ⟨⟨[(4, .cells false c), (5, o)], 2, none, []⟩, 6⟩) ⟨e, [r], s1⟩) (nl : List (Nat × AObj))
    (h4 : s1.get 4 = some (.cells false c')) (h5 : s1.get 5 = some o') (nc : namess (fun b => Nat.blt b 6) c = true) (no : o.names (fun b => Nat.blt b 6) = true) (ro : o.rw = true) (nc' : namess (pN 6 (nl.map (·.1))) c' = true) (no' : o'.names (pN 6 (nl.map (·.1))) = true) (ro' : o'.rw = true ∨ o' = .dead)
    (hnl : eachX (fun b o => 6 ≤ b ∧ s1.get b = some o ∧ o.rw = true ∧ o.names (pN 6 (nl.map (·.1))) = true) nl) (hnd : (nl.map (·.1)).Nodup) (hr : r.names (fun _ => false) = true) (ha : namess (fun b => Nat.blt b 6) args = true) {b bm : Nat} (hne : b ≠ bm) {s : AS}
    (hb : s.get b = some (.cells false (rens (p45 b bm) c))) (hm : s.get bm = some (o.ren (p45 b bm))) :
    Sound Tryz.prog (.call f (rens (p45 b bm) args) s) ⟨.ret, [r], pushL ((s.set b (.cells false (rens (pR 6 (nl.map (·.1)) (p45 b bm) s.nx) c'))).set bm (o'.ren (pR 6 (nl.map (·.1)) (p45 b bm) s.nx))) (nl.map fun x => x.2.ren (pR 6 (nl.map (·.1)) (p45 b bm) s.nx))⟩ := by
  have e4 : objAt s1 4 = .cells false c' := by simp [objAt, h4]
  have e5 : objAt s1 5 = o' := by simp [objAt, h5]
  have hg : ∀ g, g < Tryz.prog.globals.size → g < 6 ∧ p45 b bm g = g := fun g hg' => by
    rw [glN] at hg'
    refine ⟨by omega, ?_⟩
    unfold p45
    rw [if_neg (by omega), if_neg (by omega)]
  have := Sound.putFG (bs0 := [(4, .cells false c), (5, o)]) (Fz := []) h (p45 b bm) hg (nl.map (·.1)) s (fun x hx => by cases hx)
    ⟨⟨show 4 < 6 by decide, rfl, nc, rfl, hb, by rw [e4]; exact .inl rfl, by rw [e4]; exact nc'⟩, ⟨show 5 < 6 by decide, ro, no, rfl, hm, by rw [e5]; exact ro', by rw [e5]; exact no'⟩, trivial⟩
    (fun x hx y hy he => by
      simp only [List.map_cons, List.map_nil, List.mem_cons, List.not_mem_nil, or_false] at hx hy
      rcases hx with rfl | rfl <;> rcases hy with rfl | rfl
      · rfl
      · exact absurd he hne
      · exact absurd he.symm hne
      · rfl) (show [4, 5].Nodup by decide) hnd
    (fun b hb => by
      obtain ⟨x, hx, rfl⟩ := List.mem_map.1 hb
      obtain ⟨k1, k2, k3, k4⟩ := eachX_mem hnl x hx
      have e : objAt s1 x.1 = x.2 := by simp [objAt, k2]
      rw [e]
      exact ⟨k1, k3, k4⟩) ha (names_sub (fun _ h => by cases h) hr)
  have hr' : r.ren (pR 6 (nl.map (·.1)) (p45 b bm) s.nx) = r := by rw [ren_congr (p := fun _ => false) (π' := fun b => b) (fun _ h => by cases h) hr, ren_id]
  rw [hr'] at this
  have hobj : ((nl.map (·.1)).map fun x => (objAt s1 x).ren (pR 6 (nl.map (·.1)) (p45 b bm) s.nx)) = nl.map fun x => x.2.ren (pR 6 (nl.map (·.1)) (p45 b bm) s.nx) := by
    rw [List.map_map]
    refine List.map_congr_left fun x hx => ?_
    obtain ⟨k1, k2, k3, k4⟩ := eachX_mem hnl x hx
    show (objAt s1 x.1).ren _ = _
    rw [show objAt s1 x.1 = x.2 from by simp [objAt, k2]]
  rw [hobj] at this
  simp only [List.map_cons, List.map_nil, setL, e4, e5] at this
  exact this
/-- Likewise, of one that makes no block. -/
theorem put2 {f : FuncId} {args : List AV} {r : AV} {c c' : List AV} {o o' : AObj} {s1 : AS} {e : AExit} (h : Sound Tryz.prog (.call f args ⟨⟨[(4, .cells false c), (5, o)], 2, none, []⟩, 6⟩) ⟨e, [r], s1⟩)
    (h4 : s1.get 4 = some (.cells false c')) (h5 : s1.get 5 = some o') (nc : namess (fun b => Nat.blt b 6) c = true) (no : o.names (fun b => Nat.blt b 6) = true) (ro : o.rw = true) (nc' : namess (fun b => Nat.blt b 6) c' = true) (no' : o'.names (fun b => Nat.blt b 6) = true) (ro' : o'.rw = true ∨ o' = .dead)
    (hr : r.names (fun _ => false) = true) (ha : namess (fun b => Nat.blt b 6) args = true) {b bm : Nat} (hne : b ≠ bm) {s : AS}
    (hb : s.get b = some (.cells false (rens (p45 b bm) c))) (hm : s.get bm = some (o.ren (p45 b bm))) :
    Sound Tryz.prog (.call f (rens (p45 b bm) args) s) ⟨.ret, [r], (s.set b (.cells false (rens (p45 b bm) c'))).set bm (o'.ren (p45 b bm))⟩ := by
  have := putN h [] h4 h5 nc no ro (pN_lt nc') (onames_sub (fun b hb => by unfold pN; rw [show Nat.blt b 6 = true from hb]; rfl) no') ro' trivial List.nodup_nil hr ha hne hb hm
  have e1 : ∀ n, rens (pR 6 [] (p45 b bm) n) c' = rens (p45 b bm) c' := fun n => rens_congr (fun x hx => if_pos (by simpa using hx)) nc'
  have e2 : ∀ n, o'.ren (pR 6 [] (p45 b bm) n) = o'.ren (p45 b bm) := fun n => oren_congr (fun x hx => if_pos (by simpa using hx)) no'
  rw [show (([] : List (Nat × AObj)).map (·.1)) = [] from rfl, e1, e2] at this
  exact this
/-! ### the program's memory -/
def LA (kd : Int) (a : A3) (was is : Nat) (dn : Bool) : List AV := [.int .u8 kd, .int .u8 a.1, .int .i64 a.2.1, .int .i64 a.2.2, .int .u64 (Int.ofNat was), .int .u64 (Int.ofNat is), .bool dn]
structure PM where
  ms : MS
  st : Int
  kd : Int
  a : A3
  was : Nat
  is : Nat
  dn : Bool
def PM.C (m : PM) (h : AV) : List AV := h :: .int .i64 m.st :: LA m.kd m.a m.was m.is m.dn
def inc (x : Int) : Int := IntKind.i64.wrap (x + Int.ofNat 1)
def PM.load (m : PM) (a : A3) : PM := ⟨m.ms, inc m.st, 1, a, getW m.ms a, getW m.ms a, false⟩
def PM.store (m : PM) (a : A3) (u : Nat) : PM := if mayA a = true then ⟨putW m.ms a u, inc m.st, 2, a, getW m.ms a, u, false⟩ else ⟨m.ms, inc m.st, 2, a, getW m.ms a, getW m.ms a, false⟩
def PM.casd (m : PM) (a : A3) (w : Nat) : Bool := decide (getW m.ms a = w) && mayA a
def PM.cas (m : PM) (a : A3) (w u : Nat) : PM := if m.casd a w = true then ⟨putW m.ms a u, inc m.st, 3, a, getW m.ms a, u, true⟩ else ⟨m.ms, inc m.st, 3, a, getW m.ms a, getW m.ms a, false⟩
theorem mapA_names (p : Nat → Bool) : ∀ ms : MS, namesE p (mapA ms) = true
  | [] => rfl
  | x :: t => by show (true && true && namesE p (mapA t)) = true; rw [mapA_names p t]; rfl
theorem mapA_ren (π : Nat → Nat) : ∀ ms : MS, renE π (mapA ms) = mapA ms
  | [] => rfl
  | x :: t => by show _ :: renE π (mapA t) = _; rw [mapA_ren π t]; rfl
theorem mapO_names (p : Nat → Bool) (ms : MS) : (mapO ms).names p = true := mapA_names p ms
theorem mapO_ren (π : Nat → Nat) (ms : MS) : (mapO ms).ren π = mapO ms := by
  show AObj.map (renE π (mapA ms)) _ _ = _
  rw [mapA_ren]
  rfl
section
variable {s : AS} {b bm : Nat} {m : PM} (hb : s.get b = some (.cells false (m.C (.map bm)))) (hm : s.get bm = some (mapO m.ms))
include hb hm
omit hb in
theorem hm_ren : s.get bm = some ((mapO m.ms).ren (p45 b bm)) := by rw [mapO_ren]; exact hm
theorem ne_bm : b ≠ bm := fun h => by rw [h, hm] at hb; cases hb
theorem pload_at (a : A3) : Sound Tryz.prog (.call 23 [.ptr b 0, .agg (ak a)] s) ⟨.ret, [.int .u64 (Int.ofNat (getW m.ms a))], s.set b (.cells false ((m.load a).C (.map bm)))⟩ := by
  obtain ⟨ms, st, kd, a0, was, is, dn⟩ := m
  have h := put2 (b := b) (bm := bm) (s := s) (runX_sound mixed none_sound (pload a.1 a.2.1 a.2.2 st (.int .u8 kd) (.int .u8 a0.1) (.int .i64 a0.2.1) (.int .i64 a0.2.2) (.int .u64 (Int.ofNat was)) (.int .u64 (Int.ofNat is)) (.bool dn) (mapO ms) .dead .dead (getW ms a) 0 0 0) ⟨lk_mapA a rfl, trivial⟩)
    rfl rfl rfl (mapO_names _ _) rfl rfl (mapO_names _ _) (.inl rfl) rfl rfl (ne_bm hb hm) hb (hm_ren hm)
  rw [mapO_ren] at h
  exact rec_first2 h hm (ne_bm hb hm)
theorem pstore_at (a : A3) (h0 : 0 ≤ a.1) (u : Nat) : Sound Tryz.prog (.call 8 [.ptr b 0, .agg (ak a), .int .u64 (Int.ofNat u)] s) ⟨.ret, [undefA], (s.set b (.cells false ((m.store a u).C (.map bm)))).set bm (mapO (m.store a u).ms)⟩ := by
  obtain ⟨ms, st, kd, a0, was, is, dn⟩ := m
  unfold PM.store
  by_cases hy : mayA a = true
  · rw [if_pos hy]
    have h := put2 (b := b) (bm := bm) (s := s) (runX_sound mixed none_sound (pstore_y a.1 a.2.1 a.2.2 st (.int .u8 kd) (.int .u8 a0.1) (.int .i64 a0.2.1) (.int .i64 a0.2.2) (.int .u64 (Int.ofNat was)) (.int .u64 (Int.ofNat is)) (.bool dn) (mapO ms) (mapO (putW ms a (getW ms a))) (mapO (putW ms a u)) (getW ms a) u (getW ms a) (idxW ms a)) ⟨lk_mapA a rfl, fun s _ => hy ▸ pmay_call a h0 s, ⟨_, _, ent_mapA a rfl, rfl⟩, ⟨?_, rfl⟩, trivial⟩)
      rfl rfl rfl (mapO_names _ _) rfl rfl (mapO_names _ _) (.inl rfl) rfl rfl (ne_bm hb hm) hb (hm_ren hm)
    · rw [mapO_ren] at h
      exact h
    · have := fun (s : AS) (hs : s.get 5 = some (mapO (putW ms a (getW ms a)))) => est_mapA a u put_has hs
      simp only [put_idx, put_put] at this
      exact this _ rfl
  · have hn : mayA a = false := by simpa using hy
    rw [if_neg hy]
    have h := put2 (b := b) (bm := bm) (s := s) (runX_sound mixed none_sound (pstore_n a.1 a.2.1 a.2.2 st (.int .u8 kd) (.int .u8 a0.1) (.int .i64 a0.2.1) (.int .i64 a0.2.2) (.int .u64 (Int.ofNat was)) (.int .u64 (Int.ofNat is)) (.bool dn) (mapO ms) .dead .dead (getW ms a) u 0 0) ⟨lk_mapA a rfl, fun s _ => hn ▸ pmay_call a h0 s, trivial⟩)
      rfl rfl rfl (mapO_names _ _) rfl rfl (mapO_names _ _) (.inl rfl) rfl rfl (ne_bm hb hm) hb (hm_ren hm)
    rw [mapO_ren] at h
    exact h
theorem pcas_at (a : A3) (h0 : 0 ≤ a.1) (w u : Nat) : Sound Tryz.prog (.call 111 [.ptr b 0, .agg (ak a), .int .u64 (Int.ofNat w), .int .u64 (Int.ofNat u)] s) ⟨.ret, [.bool (m.casd a w)], (s.set b (.cells false ((m.cas a w u).C (.map bm)))).set bm (mapO (m.cas a w u).ms)⟩ := by
  obtain ⟨ms, st, kd, a0, was, is, dn⟩ := m
  unfold PM.cas PM.casd
  by_cases hw : getW ms a = w
  · by_cases hy : mayA a = true
    · have e : (decide (getW ms a = w) && mayA a) = true := by simp [hw, hy]
      simp only [e, if_true]
      have h := put2 (b := b) (bm := bm) (s := s) (runX_sound mixed none_sound (pcas_y a.1 a.2.1 a.2.2 st (.int .u8 kd) (.int .u8 a0.1) (.int .i64 a0.2.1) (.int .i64 a0.2.2) (.int .u64 (Int.ofNat was)) (.int .u64 (Int.ofNat is)) (.bool dn) (mapO ms) (mapO (putW ms a (getW ms a))) (mapO (putW ms a u)) (getW ms a) u (getW ms a) (idxW ms a) w) ⟨lk_mapA a rfl, qeq _ _ true (by simp [hw]), fun s _ => hy ▸ pmay_call a h0 s, ⟨_, _, ent_mapA a rfl, rfl⟩, ⟨?_, rfl⟩, trivial⟩)
        rfl rfl rfl (mapO_names _ _) rfl rfl (mapO_names _ _) (.inl rfl) rfl rfl (ne_bm hb hm) hb (hm_ren hm)
      · rw [mapO_ren] at h
        exact h
      · have := fun (s : AS) (hs : s.get 5 = some (mapO (putW ms a (getW ms a)))) => est_mapA a u put_has hs
        simp only [put_idx, put_put] at this
        exact this _ rfl
    · have hn : mayA a = false := by simpa using hy
      have e : (decide (getW ms a = w) && mayA a) = false := by simp [hn]
      simp only [e, Bool.false_eq_true, if_false]
      have h := put2 (b := b) (bm := bm) (s := s) (runX_sound mixed none_sound (pcas_n a.1 a.2.1 a.2.2 st (.int .u8 kd) (.int .u8 a0.1) (.int .i64 a0.2.1) (.int .i64 a0.2.2) (.int .u64 (Int.ofNat was)) (.int .u64 (Int.ofNat is)) (.bool dn) (mapO ms) .dead .dead (getW ms a) u 0 0 w) ⟨lk_mapA a rfl, qeq _ _ true (by simp [hw]), fun s _ => hn ▸ pmay_call a h0 s, trivial⟩)
        rfl rfl rfl (mapO_names _ _) rfl rfl (mapO_names _ _) (.inl rfl) rfl rfl (ne_bm hb hm) hb (hm_ren hm)
      rw [mapO_ren] at h
      exact h
  · have e : (decide (getW ms a = w) && mayA a) = false := by simp [hw]
    simp only [e, Bool.false_eq_true, if_false]
    have h := put2 (b := b) (bm := bm) (s := s) (runX_sound mixed none_sound (pcas_o a.1 a.2.1 a.2.2 st (.int .u8 kd) (.int .u8 a0.1) (.int .i64 a0.2.1) (.int .i64 a0.2.2) (.int .u64 (Int.ofNat was)) (.int .u64 (Int.ofNat is)) (.bool dn) (mapO ms) .dead .dead (getW ms a) u 0 0 w) ⟨lk_mapA a rfl, qeq _ _ false (by simp [hw]), trivial⟩)
      rfl rfl rfl (mapO_names _ _) rfl rfl (mapO_names _ _) (.inl rfl) rfl rfl (ne_bm hb hm) hb (hm_ren hm)
    rw [mapO_ren] at h
    exact h
end
end Go.Proofs.YtofbdgmknfbkfaaGreatDoor.nodesLife
