/- Barriers, step by step. Conditions: those that each theorem names, and no others. -/
import Derived.Test.YtcnfblibfndepaaGreatDoorCover2
namespace Go.Proofs.YtcnfblibfndepaaGreatDoor.ctlsCover
open Go Go.Mini
/-! ### how barriers run -/
theorem rch_p (n v d e : Nat) (r : Bool) : runX Tryz.prog none_ 60 84 (.call 84 [.int .u64 (Int.ofNat n), .int .u64 (Int.ofNat v)] (startS Tryz.prog [])) [.val 84 1 2 (.int .u64 (Int.ofNat d)), .val 84 1 3 (.int .u64 (Int.ofNat e)), .val 84 1 4 (.bool r)] = some (⟨.ret, [.bool r], ⟨⟨[], 0, none, []⟩, 3⟩⟩, [], [Qst.val (some (.int .u64 (IntKind.u64.wrap (Int.ofNat v - Int.ofNat n)))) (.int .u64 (Int.ofNat d)), Qst.val (some (.int .u64 ((Int.ofNat d).tmod 281474976710656))) (.int .u64 (Int.ofNat e)), Qst.val (some (.bool (decide (Int.ofNat e < 140737488355328)))) (.bool r)]) := by kernel_rfl
theorem pb0_c (oM oM2 om : AObj) (num th all v a2 : Nat) (lk _ wt _ : Int) : runX Tryz.prog none_ 60 72 (.call 72 [.ptr 13 0, .ptr 7 0] ⟨⟨[(13, .cells false [.bool true, .bool true, .int .u64 (Int.ofNat num), .int .i64 lk, .int .i64 (Int.ofNat th), .int .i64 (Int.ofNat all), .int .i64 (Int.negSucc 0), .int .i64 wt, .int .i64 (Int.ofNat 0)]), (7, oM), (8, om), (1, .cells true wfB)], 4, none, []⟩, 17⟩) [.call 72 7 3 (.int .u64 (Int.ofNat v)) (fun s => s.set 7 oM2), .val 72 7 4 (.int .u64 (Int.ofNat a2)), .val 72 7 5 (.int .i64 (Int.ofNat a2)), .val 72 7 6 (.int .i64 (Int.ofNat (4 * a2))), .val 72 13 13 (.bool false)] = some ({ e := AExit.ret, ts := [AV.bool false], s := { h := { bs := [(13, AObj.cells false [AV.bool true, AV.bool true, AV.int IntKind.u64 (Int.ofNat num), AV.int IntKind.i64 lk, AV.int IntKind.i64 (Int.ofNat th), AV.int IntKind.i64 (Int.ofNat (4 * a2)), AV.int IntKind.i64 (Int.ofNat 0), AV.int IntKind.i64 wt, AV.int IntKind.i64 (Int.ofNat 0)]), (7, oM2), (8, om), (1, AObj.cells true wfB)], len := 4, esc := none, wr := [13, 13, 7] }, nx := 17 } }, [], [Qst.snd (Task.call 28 [AV.ptr 7 0, AV.agg [AV.int IntKind.u8 (Int.ofNat 5), AV.int IntKind.i64 (Int.ofNat 0), AV.int IntKind.i64 (Int.ofNat 0)]] { h := { bs := [(13, AObj.cells false [AV.bool true, AV.bool true, AV.int IntKind.u64 (Int.ofNat num), AV.int IntKind.i64 lk, AV.int IntKind.i64 (Int.ofNat th), AV.int IntKind.i64 (Int.ofNat all), AV.int IntKind.i64 (Int.negSucc 0), AV.int IntKind.i64 wt, AV.int IntKind.i64 (Int.ofNat 0)]), (7, oM), (8, om), (1, AObj.cells true wfB)], len := 4, esc := none, wr := [] }, nx := 17 }) { e := AExit.ret, ts := [AV.int IntKind.u64 (Int.ofNat v)], s := { h := { bs := [(13, AObj.cells false [AV.bool true, AV.bool true, AV.int IntKind.u64 (Int.ofNat num), AV.int IntKind.i64 lk, AV.int IntKind.i64 (Int.ofNat th), AV.int IntKind.i64 (Int.ofNat all), AV.int IntKind.i64 (Int.negSucc 0), AV.int IntKind.i64 wt, AV.int IntKind.i64 (Int.ofNat 0)]), (7, oM2), (8, om), (1, AObj.cells true wfB)], len := 4, esc := none, wr := [7] }, nx := 17 } }, Qst.val (some (AV.int IntKind.u64 (if 4 < Int.ofNat v then Int.ofNat 4 else Int.ofNat v))) (AV.int IntKind.u64 (Int.ofNat a2)), Qst.val (some (AV.int IntKind.i64 (IntKind.i64.wrap (Int.ofNat a2)))) (AV.int IntKind.i64 (Int.ofNat a2)), Qst.val (some (AV.int IntKind.i64 (IntKind.i64.wrap (Int.ofNat (a2 * 4))))) (AV.int IntKind.i64 (Int.ofNat (4 * a2))), Qst.val (some (AV.bool (decide (Int.ofNat th ≥ Int.ofNat (4 * a2))))) (AV.bool false)]) := by kernel_rfl
theorem pb0_o (oM oM2 om : AObj) (num th all v a2 : Nat) (lk _ wt _ : Int) : runX Tryz.prog none_ 60 72 (.call 72 [.ptr 13 0, .ptr 7 0] ⟨⟨[(13, .cells false [.bool true, .bool true, .int .u64 (Int.ofNat num), .int .i64 lk, .int .i64 (Int.ofNat th), .int .i64 (Int.ofNat all), .int .i64 (Int.negSucc 0), .int .i64 wt, .int .i64 (Int.ofNat 0)]), (7, oM), (8, om), (1, .cells true wfB)], 4, none, []⟩, 17⟩) [.call 72 7 3 (.int .u64 (Int.ofNat v)) (fun s => s.set 7 oM2), .val 72 7 4 (.int .u64 (Int.ofNat a2)), .val 72 7 5 (.int .i64 (Int.ofNat a2)), .val 72 7 6 (.int .i64 (Int.ofNat (4 * a2))), .val 72 13 13 (.bool true)] = some ({ e := AExit.ret, ts := [AV.bool true], s := { h := { bs := [(13, AObj.cells false [AV.bool true, AV.bool false, AV.int IntKind.u64 (Int.ofNat num), AV.int IntKind.i64 lk, AV.int IntKind.i64 (Int.ofNat th), AV.int IntKind.i64 (Int.ofNat (4 * a2)), AV.int IntKind.i64 (Int.ofNat 0), AV.int IntKind.i64 wt, AV.int IntKind.i64 (Int.ofNat 0)]), (7, oM2), (8, om), (1, AObj.cells true wfB)], len := 4, esc := none, wr := [13, 13, 13, 7] }, nx := 17 } }, [], [Qst.snd (Task.call 28 [AV.ptr 7 0, AV.agg [AV.int IntKind.u8 (Int.ofNat 5), AV.int IntKind.i64 (Int.ofNat 0), AV.int IntKind.i64 (Int.ofNat 0)]] { h := { bs := [(13, AObj.cells false [AV.bool true, AV.bool true, AV.int IntKind.u64 (Int.ofNat num), AV.int IntKind.i64 lk, AV.int IntKind.i64 (Int.ofNat th), AV.int IntKind.i64 (Int.ofNat all), AV.int IntKind.i64 (Int.negSucc 0), AV.int IntKind.i64 wt, AV.int IntKind.i64 (Int.ofNat 0)]), (7, oM), (8, om), (1, AObj.cells true wfB)], len := 4, esc := none, wr := [] }, nx := 17 }) { e := AExit.ret, ts := [AV.int IntKind.u64 (Int.ofNat v)], s := { h := { bs := [(13, AObj.cells false [AV.bool true, AV.bool true, AV.int IntKind.u64 (Int.ofNat num), AV.int IntKind.i64 lk, AV.int IntKind.i64 (Int.ofNat th), AV.int IntKind.i64 (Int.ofNat all), AV.int IntKind.i64 (Int.negSucc 0), AV.int IntKind.i64 wt, AV.int IntKind.i64 (Int.ofNat 0)]), (7, oM2), (8, om), (1, AObj.cells true wfB)], len := 4, esc := none, wr := [7] }, nx := 17 } }, Qst.val (some (AV.int IntKind.u64 (if 4 < Int.ofNat v then Int.ofNat 4 else Int.ofNat v))) (AV.int IntKind.u64 (Int.ofNat a2)), Qst.val (some (AV.int IntKind.i64 (IntKind.i64.wrap (Int.ofNat a2)))) (AV.int IntKind.i64 (Int.ofNat a2)), Qst.val (some (AV.int IntKind.i64 (IntKind.i64.wrap (Int.ofNat (a2 * 4))))) (AV.int IntKind.i64 (Int.ofNat (4 * a2))), Qst.val (some (AV.bool (decide (Int.ofNat th ≥ Int.ofNat (4 * a2))))) (AV.bool true)]) := by kernel_rfl
theorem pb1_c (oM oM2 om : AObj) (num th all v _ : Nat) (lk _ wt _ : Int) : runX Tryz.prog none_ 60 72 (.call 72 [.ptr 13 0, .ptr 7 0] ⟨⟨[(13, .cells false [.bool true, .bool true, .int .u64 (Int.ofNat num), .int .i64 lk, .int .i64 (Int.ofNat th), .int .i64 (Int.ofNat all), .int .i64 (Int.ofNat 0), .int .i64 wt, .int .i64 (Int.ofNat 0)]), (7, oM), (8, om), (1, .cells true wfB)], 4, none, []⟩, 17⟩) [.call 72 9 19 (.int .u64 (Int.ofNat v)) (fun s => s.set 7 oM2), .val 81 6 1 (.bool true), .val 72 10 7 (.int .i64 (Int.ofNat (th + 1))), .val 72 13 13 (.bool false)] = some ({ e := AExit.ret, ts := [AV.bool false], s := { h := { bs := [(13, AObj.cells false [AV.bool true, AV.bool true, AV.int IntKind.u64 (Int.ofNat num), AV.int IntKind.i64 lk, AV.int IntKind.i64 (Int.ofNat (th + 1)), AV.int IntKind.i64 (Int.ofNat all), AV.int IntKind.i64 (Int.ofNat 0), AV.int IntKind.i64 (Int.negSucc 0), AV.int IntKind.i64 (Int.ofNat 0)]), (7, oM2), (8, om), (1, AObj.cells true wfB)], len := 4, esc := none, wr := [13, 13, 13, 7] }, nx := 17 } }, [], [Qst.snd (Task.call 28 [AV.ptr 7 0, AV.agg [AV.int IntKind.u8 (Int.ofNat 8), AV.int IntKind.i64 (Int.ofNat th), AV.int IntKind.i64 (Int.ofNat 0)]] { h := { bs := [(13, AObj.cells false [AV.bool true, AV.bool true, AV.int IntKind.u64 (Int.ofNat num), AV.int IntKind.i64 lk, AV.int IntKind.i64 (Int.ofNat th), AV.int IntKind.i64 (Int.ofNat all), AV.int IntKind.i64 (Int.ofNat 0), AV.int IntKind.i64 wt, AV.int IntKind.i64 (Int.ofNat 0)]), (7, oM), (8, om), (1, AObj.cells true wfB)], len := 4, esc := none, wr := [] }, nx := 17 }) { e := AExit.ret, ts := [AV.int IntKind.u64 (Int.ofNat v)], s := { h := { bs := [(13, AObj.cells false [AV.bool true, AV.bool true, AV.int IntKind.u64 (Int.ofNat num), AV.int IntKind.i64 lk, AV.int IntKind.i64 (Int.ofNat th), AV.int IntKind.i64 (Int.ofNat all), AV.int IntKind.i64 (Int.ofNat 0), AV.int IntKind.i64 wt, AV.int IntKind.i64 (Int.ofNat 0)]), (7, oM2), (8, om), (1, AObj.cells true wfB)], len := 4, esc := none, wr := [7] }, nx := 17 } }, Qst.val (some (AV.bool (Int.ofNat v == Int.ofNat 0))) (AV.bool true), Qst.val (some (AV.int IntKind.i64 (IntKind.i64.wrap (Int.ofNat (th + 1))))) (AV.int IntKind.i64 (Int.ofNat (th + 1))), Qst.val (some (AV.bool (decide (Int.ofNat (th + 1) ≥ Int.ofNat all)))) (AV.bool false)]) := by kernel_rfl
theorem pb1_o (oM oM2 om : AObj) (num th all v _ : Nat) (lk _ wt _ : Int) : runX Tryz.prog none_ 60 72 (.call 72 [.ptr 13 0, .ptr 7 0] ⟨⟨[(13, .cells false [.bool true, .bool true, .int .u64 (Int.ofNat num), .int .i64 lk, .int .i64 (Int.ofNat th), .int .i64 (Int.ofNat all), .int .i64 (Int.ofNat 0), .int .i64 wt, .int .i64 (Int.ofNat 0)]), (7, oM), (8, om), (1, .cells true wfB)], 4, none, []⟩, 17⟩) [.call 72 9 19 (.int .u64 (Int.ofNat v)) (fun s => s.set 7 oM2), .val 81 6 1 (.bool true), .val 72 10 7 (.int .i64 (Int.ofNat (th + 1))), .val 72 13 13 (.bool true)] = some ({ e := AExit.ret, ts := [AV.bool true], s := { h := { bs := [(13, AObj.cells false [AV.bool true, AV.bool false, AV.int IntKind.u64 (Int.ofNat num), AV.int IntKind.i64 lk, AV.int IntKind.i64 (Int.ofNat (th + 1)), AV.int IntKind.i64 (Int.ofNat all), AV.int IntKind.i64 (Int.ofNat 0), AV.int IntKind.i64 (Int.negSucc 0), AV.int IntKind.i64 (Int.ofNat 0)]), (7, oM2), (8, om), (1, AObj.cells true wfB)], len := 4, esc := none, wr := [13, 13, 13, 13, 7] }, nx := 17 } }, [], [Qst.snd (Task.call 28 [AV.ptr 7 0, AV.agg [AV.int IntKind.u8 (Int.ofNat 8), AV.int IntKind.i64 (Int.ofNat th), AV.int IntKind.i64 (Int.ofNat 0)]] { h := { bs := [(13, AObj.cells false [AV.bool true, AV.bool true, AV.int IntKind.u64 (Int.ofNat num), AV.int IntKind.i64 lk, AV.int IntKind.i64 (Int.ofNat th), AV.int IntKind.i64 (Int.ofNat all), AV.int IntKind.i64 (Int.ofNat 0), AV.int IntKind.i64 wt, AV.int IntKind.i64 (Int.ofNat 0)]), (7, oM), (8, om), (1, AObj.cells true wfB)], len := 4, esc := none, wr := [] }, nx := 17 }) { e := AExit.ret, ts := [AV.int IntKind.u64 (Int.ofNat v)], s := { h := { bs := [(13, AObj.cells false [AV.bool true, AV.bool true, AV.int IntKind.u64 (Int.ofNat num), AV.int IntKind.i64 lk, AV.int IntKind.i64 (Int.ofNat th), AV.int IntKind.i64 (Int.ofNat all), AV.int IntKind.i64 (Int.ofNat 0), AV.int IntKind.i64 wt, AV.int IntKind.i64 (Int.ofNat 0)]), (7, oM2), (8, om), (1, AObj.cells true wfB)], len := 4, esc := none, wr := [7] }, nx := 17 } }, Qst.val (some (AV.bool (Int.ofNat v == Int.ofNat 0))) (AV.bool true), Qst.val (some (AV.int IntKind.i64 (IntKind.i64.wrap (Int.ofNat (th + 1))))) (AV.int IntKind.i64 (Int.ofNat (th + 1))), Qst.val (some (AV.bool (decide (Int.ofNat (th + 1) ≥ Int.ofNat all)))) (AV.bool true)]) := by kernel_rfl
theorem pb1_n (oM oM2 om : AObj) (num th all v _ : Nat) (lk _ wt _ : Int) : runX Tryz.prog none_ 60 72 (.call 72 [.ptr 13 0, .ptr 7 0] ⟨⟨[(13, .cells false [.bool true, .bool true, .int .u64 (Int.ofNat num), .int .i64 lk, .int .i64 (Int.ofNat th), .int .i64 (Int.ofNat all), .int .i64 (Int.ofNat 0), .int .i64 wt, .int .i64 (Int.ofNat 0)]), (7, oM), (8, om), (1, .cells true wfB)], 4, none, []⟩, 17⟩) [.call 72 9 19 (.int .u64 (Int.ofNat v)) (fun s => s.set 7 oM2), .val 81 6 1 (.bool false), .val 72 13 13 (.bool false)] = some ({ e := AExit.ret, ts := [AV.bool false], s := { h := { bs := [(13, AObj.cells false [AV.bool true, AV.bool true, AV.int IntKind.u64 (Int.ofNat num), AV.int IntKind.i64 lk, AV.int IntKind.i64 (Int.ofNat th), AV.int IntKind.i64 (Int.ofNat all), AV.int IntKind.i64 (Int.ofNat 1), AV.int IntKind.i64 wt, AV.int IntKind.i64 (Int.ofNat 0)]), (7, oM2), (8, om), (1, AObj.cells true wfB)], len := 4, esc := none, wr := [13, 7] }, nx := 17 } }, [], [Qst.snd (Task.call 28 [AV.ptr 7 0, AV.agg [AV.int IntKind.u8 (Int.ofNat 8), AV.int IntKind.i64 (Int.ofNat th), AV.int IntKind.i64 (Int.ofNat 0)]] { h := { bs := [(13, AObj.cells false [AV.bool true, AV.bool true, AV.int IntKind.u64 (Int.ofNat num), AV.int IntKind.i64 lk, AV.int IntKind.i64 (Int.ofNat th), AV.int IntKind.i64 (Int.ofNat all), AV.int IntKind.i64 (Int.ofNat 0), AV.int IntKind.i64 wt, AV.int IntKind.i64 (Int.ofNat 0)]), (7, oM), (8, om), (1, AObj.cells true wfB)], len := 4, esc := none, wr := [] }, nx := 17 }) { e := AExit.ret, ts := [AV.int IntKind.u64 (Int.ofNat v)], s := { h := { bs := [(13, AObj.cells false [AV.bool true, AV.bool true, AV.int IntKind.u64 (Int.ofNat num), AV.int IntKind.i64 lk, AV.int IntKind.i64 (Int.ofNat th), AV.int IntKind.i64 (Int.ofNat all), AV.int IntKind.i64 (Int.ofNat 0), AV.int IntKind.i64 wt, AV.int IntKind.i64 (Int.ofNat 0)]), (7, oM2), (8, om), (1, AObj.cells true wfB)], len := 4, esc := none, wr := [7] }, nx := 17 } }, Qst.val (some (AV.bool (Int.ofNat v == Int.ofNat 0))) (AV.bool false), Qst.val (some (AV.bool (decide (Int.ofNat th ≥ Int.ofNat all)))) (AV.bool false)]) := by kernel_rfl
theorem pb2_c (oM oM2 om : AObj) (num th all v _ : Nat) (lk _ wt _ : Int) : runX Tryz.prog none_ 60 72 (.call 72 [.ptr 13 0, .ptr 7 0] ⟨⟨[(13, .cells false [.bool true, .bool true, .int .u64 (Int.ofNat num), .int .i64 lk, .int .i64 (Int.ofNat th), .int .i64 (Int.ofNat all), .int .i64 (Int.ofNat 1), .int .i64 wt, .int .i64 (Int.ofNat 0)]), (7, oM), (8, om), (1, .cells true wfB)], 4, none, []⟩, 17⟩) [.call 72 9 19 (.int .u64 (Int.ofNat v)) (fun s => s.set 7 oM2), .val 81 6 1 (.bool true), .val 72 10 7 (.int .i64 (Int.ofNat (th + 1))), .val 72 13 13 (.bool false)] = some ({ e := AExit.ret, ts := [AV.bool false], s := { h := { bs := [(13, AObj.cells false [AV.bool true, AV.bool true, AV.int IntKind.u64 (Int.ofNat num), AV.int IntKind.i64 lk, AV.int IntKind.i64 (Int.ofNat (th + 1)), AV.int IntKind.i64 (Int.ofNat all), AV.int IntKind.i64 (Int.ofNat 0), AV.int IntKind.i64 (Int.negSucc 0), AV.int IntKind.i64 (Int.ofNat 0)]), (7, oM2), (8, om), (1, AObj.cells true wfB)], len := 4, esc := none, wr := [13, 13, 13, 7] }, nx := 17 } }, [], [Qst.snd (Task.call 28 [AV.ptr 7 0, AV.agg [AV.int IntKind.u8 (Int.ofNat 8), AV.int IntKind.i64 (Int.ofNat th), AV.int IntKind.i64 (Int.ofNat 1)]] { h := { bs := [(13, AObj.cells false [AV.bool true, AV.bool true, AV.int IntKind.u64 (Int.ofNat num), AV.int IntKind.i64 lk, AV.int IntKind.i64 (Int.ofNat th), AV.int IntKind.i64 (Int.ofNat all), AV.int IntKind.i64 (Int.ofNat 1), AV.int IntKind.i64 wt, AV.int IntKind.i64 (Int.ofNat 0)]), (7, oM), (8, om), (1, AObj.cells true wfB)], len := 4, esc := none, wr := [] }, nx := 17 }) { e := AExit.ret, ts := [AV.int IntKind.u64 (Int.ofNat v)], s := { h := { bs := [(13, AObj.cells false [AV.bool true, AV.bool true, AV.int IntKind.u64 (Int.ofNat num), AV.int IntKind.i64 lk, AV.int IntKind.i64 (Int.ofNat th), AV.int IntKind.i64 (Int.ofNat all), AV.int IntKind.i64 (Int.ofNat 1), AV.int IntKind.i64 wt, AV.int IntKind.i64 (Int.ofNat 0)]), (7, oM2), (8, om), (1, AObj.cells true wfB)], len := 4, esc := none, wr := [7] }, nx := 17 } }, Qst.val (some (AV.bool (Int.ofNat v == Int.ofNat 0))) (AV.bool true), Qst.val (some (AV.int IntKind.i64 (IntKind.i64.wrap (Int.ofNat (th + 1))))) (AV.int IntKind.i64 (Int.ofNat (th + 1))), Qst.val (some (AV.bool (decide (Int.ofNat (th + 1) ≥ Int.ofNat all)))) (AV.bool false)]) := by kernel_rfl
theorem pb2_o (oM oM2 om : AObj) (num th all v _ : Nat) (lk _ wt _ : Int) : runX Tryz.prog none_ 60 72 (.call 72 [.ptr 13 0, .ptr 7 0] ⟨⟨[(13, .cells false [.bool true, .bool true, .int .u64 (Int.ofNat num), .int .i64 lk, .int .i64 (Int.ofNat th), .int .i64 (Int.ofNat all), .int .i64 (Int.ofNat 1), .int .i64 wt, .int .i64 (Int.ofNat 0)]), (7, oM), (8, om), (1, .cells true wfB)], 4, none, []⟩, 17⟩) [.call 72 9 19 (.int .u64 (Int.ofNat v)) (fun s => s.set 7 oM2), .val 81 6 1 (.bool true), .val 72 10 7 (.int .i64 (Int.ofNat (th + 1))), .val 72 13 13 (.bool true)] = some ({ e := AExit.ret, ts := [AV.bool true], s := { h := { bs := [(13, AObj.cells false [AV.bool true, AV.bool false, AV.int IntKind.u64 (Int.ofNat num), AV.int IntKind.i64 lk, AV.int IntKind.i64 (Int.ofNat (th + 1)), AV.int IntKind.i64 (Int.ofNat all), AV.int IntKind.i64 (Int.ofNat 0), AV.int IntKind.i64 (Int.negSucc 0), AV.int IntKind.i64 (Int.ofNat 0)]), (7, oM2), (8, om), (1, AObj.cells true wfB)], len := 4, esc := none, wr := [13, 13, 13, 13, 7] }, nx := 17 } }, [], [Qst.snd (Task.call 28 [AV.ptr 7 0, AV.agg [AV.int IntKind.u8 (Int.ofNat 8), AV.int IntKind.i64 (Int.ofNat th), AV.int IntKind.i64 (Int.ofNat 1)]] { h := { bs := [(13, AObj.cells false [AV.bool true, AV.bool true, AV.int IntKind.u64 (Int.ofNat num), AV.int IntKind.i64 lk, AV.int IntKind.i64 (Int.ofNat th), AV.int IntKind.i64 (Int.ofNat all), AV.int IntKind.i64 (Int.ofNat 1), AV.int IntKind.i64 wt, AV.int IntKind.i64 (Int.ofNat 0)]), (7, oM), (8, om), (1, AObj.cells true wfB)], len := 4, esc := none, wr := [] }, nx := 17 }) { e := AExit.ret, ts := [AV.int IntKind.u64 (Int.ofNat v)], s := { h := { bs := [(13, AObj.cells false [AV.bool true, AV.bool true, AV.int IntKind.u64 (Int.ofNat num), AV.int IntKind.i64 lk, AV.int IntKind.i64 (Int.ofNat th), AV.int IntKind.i64 (Int.ofNat all), AV.int IntKind.i64 (Int.ofNat 1), AV.int IntKind.i64 wt, AV.int IntKind.i64 (Int.ofNat 0)]), (7, oM2), (8, om), (1, AObj.cells true wfB)], len := 4, esc := none, wr := [7] }, nx := 17 } }, Qst.val (some (AV.bool (Int.ofNat v == Int.ofNat 0))) (AV.bool true), Qst.val (some (AV.int IntKind.i64 (IntKind.i64.wrap (Int.ofNat (th + 1))))) (AV.int IntKind.i64 (Int.ofNat (th + 1))), Qst.val (some (AV.bool (decide (Int.ofNat (th + 1) ≥ Int.ofNat all)))) (AV.bool true)]) := by kernel_rfl
theorem pb2_n (oM oM2 om : AObj) (num th all v _ : Nat) (lk _ wt _ : Int) : runX Tryz.prog none_ 60 72 (.call 72 [.ptr 13 0, .ptr 7 0] ⟨⟨[(13, .cells false [.bool true, .bool true, .int .u64 (Int.ofNat num), .int .i64 lk, .int .i64 (Int.ofNat th), .int .i64 (Int.ofNat all), .int .i64 (Int.ofNat 1), .int .i64 wt, .int .i64 (Int.ofNat 0)]), (7, oM), (8, om), (1, .cells true wfB)], 4, none, []⟩, 17⟩) [.call 72 9 19 (.int .u64 (Int.ofNat v)) (fun s => s.set 7 oM2), .val 81 6 1 (.bool false), .val 72 13 13 (.bool false)] = some ({ e := AExit.ret, ts := [AV.bool false], s := { h := { bs := [(13, AObj.cells false [AV.bool true, AV.bool true, AV.int IntKind.u64 (Int.ofNat num), AV.int IntKind.i64 lk, AV.int IntKind.i64 (Int.ofNat th), AV.int IntKind.i64 (Int.ofNat all), AV.int IntKind.i64 (Int.ofNat 2), AV.int IntKind.i64 wt, AV.int IntKind.i64 (Int.ofNat 0)]), (7, oM2), (8, om), (1, AObj.cells true wfB)], len := 4, esc := none, wr := [13, 7] }, nx := 17 } }, [], [Qst.snd (Task.call 28 [AV.ptr 7 0, AV.agg [AV.int IntKind.u8 (Int.ofNat 8), AV.int IntKind.i64 (Int.ofNat th), AV.int IntKind.i64 (Int.ofNat 1)]] { h := { bs := [(13, AObj.cells false [AV.bool true, AV.bool true, AV.int IntKind.u64 (Int.ofNat num), AV.int IntKind.i64 lk, AV.int IntKind.i64 (Int.ofNat th), AV.int IntKind.i64 (Int.ofNat all), AV.int IntKind.i64 (Int.ofNat 1), AV.int IntKind.i64 wt, AV.int IntKind.i64 (Int.ofNat 0)]), (7, oM), (8, om), (1, AObj.cells true wfB)], len := 4, esc := none, wr := [] }, nx := 17 }) { e := AExit.ret, ts := [AV.int IntKind.u64 (Int.ofNat v)], s := { h := { bs := [(13, AObj.cells false [AV.bool true, AV.bool true, AV.int IntKind.u64 (Int.ofNat num), AV.int IntKind.i64 lk, AV.int IntKind.i64 (Int.ofNat th), AV.int IntKind.i64 (Int.ofNat all), AV.int IntKind.i64 (Int.ofNat 1), AV.int IntKind.i64 wt, AV.int IntKind.i64 (Int.ofNat 0)]), (7, oM2), (8, om), (1, AObj.cells true wfB)], len := 4, esc := none, wr := [7] }, nx := 17 } }, Qst.val (some (AV.bool (Int.ofNat v == Int.ofNat 0))) (AV.bool false), Qst.val (some (AV.bool (decide (Int.ofNat th ≥ Int.ofNat all)))) (AV.bool false)]) := by kernel_rfl
theorem pb3_c (oM oM2 om : AObj) (num th all v _ : Nat) (lk _ wt _ : Int) : runX Tryz.prog none_ 60 72 (.call 72 [.ptr 13 0, .ptr 7 0] ⟨⟨[(13, .cells false [.bool true, .bool true, .int .u64 (Int.ofNat num), .int .i64 lk, .int .i64 (Int.ofNat th), .int .i64 (Int.ofNat all), .int .i64 (Int.ofNat 2), .int .i64 wt, .int .i64 (Int.ofNat 0)]), (7, oM), (8, om), (1, .cells true wfB)], 4, none, []⟩, 17⟩) [.call 72 9 19 (.int .u64 (Int.ofNat v)) (fun s => s.set 7 oM2), .pure 81 3 5 [] (.bool true), .val 72 10 7 (.int .i64 (Int.ofNat (th + 1))), .val 72 13 13 (.bool false)] = some ({ e := AExit.ret, ts := [AV.bool false], s := { h := { bs := [(13, AObj.cells false [AV.bool true, AV.bool true, AV.int IntKind.u64 (Int.ofNat num), AV.int IntKind.i64 lk, AV.int IntKind.i64 (Int.ofNat (th + 1)), AV.int IntKind.i64 (Int.ofNat all), AV.int IntKind.i64 (Int.ofNat 0), AV.int IntKind.i64 (Int.negSucc 0), AV.int IntKind.i64 (Int.ofNat 0)]), (7, oM2), (8, om), (1, AObj.cells true wfB)], len := 4, esc := none, wr := [13, 13, 13, 7] }, nx := 17 } }, [], [Qst.snd (Task.call 28 [AV.ptr 7 0, AV.agg [AV.int IntKind.u8 (Int.ofNat 8), AV.int IntKind.i64 (Int.ofNat th), AV.int IntKind.i64 (Int.ofNat 2)]] { h := { bs := [(13, AObj.cells false [AV.bool true, AV.bool true, AV.int IntKind.u64 (Int.ofNat num), AV.int IntKind.i64 lk, AV.int IntKind.i64 (Int.ofNat th), AV.int IntKind.i64 (Int.ofNat all), AV.int IntKind.i64 (Int.ofNat 2), AV.int IntKind.i64 wt, AV.int IntKind.i64 (Int.ofNat 0)]), (7, oM), (8, om), (1, AObj.cells true wfB)], len := 4, esc := none, wr := [] }, nx := 17 }) { e := AExit.ret, ts := [AV.int IntKind.u64 (Int.ofNat v)], s := { h := { bs := [(13, AObj.cells false [AV.bool true, AV.bool true, AV.int IntKind.u64 (Int.ofNat num), AV.int IntKind.i64 lk, AV.int IntKind.i64 (Int.ofNat th), AV.int IntKind.i64 (Int.ofNat all), AV.int IntKind.i64 (Int.ofNat 2), AV.int IntKind.i64 wt, AV.int IntKind.i64 (Int.ofNat 0)]), (7, oM2), (8, om), (1, AObj.cells true wfB)], len := 4, esc := none, wr := [7] }, nx := 17 } }, Qst.pure [] 84 [AV.int IntKind.u64 (Int.ofNat num), AV.int IntKind.u64 (Int.ofNat v)] (AV.bool true), Qst.val (some (AV.int IntKind.i64 (IntKind.i64.wrap (Int.ofNat (th + 1))))) (AV.int IntKind.i64 (Int.ofNat (th + 1))), Qst.val (some (AV.bool (decide (Int.ofNat (th + 1) ≥ Int.ofNat all)))) (AV.bool false)]) := by kernel_rfl
theorem pb3_o (oM oM2 om : AObj) (num th all v _ : Nat) (lk _ wt _ : Int) : runX Tryz.prog none_ 60 72 (.call 72 [.ptr 13 0, .ptr 7 0] ⟨⟨[(13, .cells false [.bool true, .bool true, .int .u64 (Int.ofNat num), .int .i64 lk, .int .i64 (Int.ofNat th), .int .i64 (Int.ofNat all), .int .i64 (Int.ofNat 2), .int .i64 wt, .int .i64 (Int.ofNat 0)]), (7, oM), (8, om), (1, .cells true wfB)], 4, none, []⟩, 17⟩) [.call 72 9 19 (.int .u64 (Int.ofNat v)) (fun s => s.set 7 oM2), .pure 81 3 5 [] (.bool true), .val 72 10 7 (.int .i64 (Int.ofNat (th + 1))), .val 72 13 13 (.bool true)] = some ({ e := AExit.ret, ts := [AV.bool true], s := { h := { bs := [(13, AObj.cells false [AV.bool true, AV.bool false, AV.int IntKind.u64 (Int.ofNat num), AV.int IntKind.i64 lk, AV.int IntKind.i64 (Int.ofNat (th + 1)), AV.int IntKind.i64 (Int.ofNat all), AV.int IntKind.i64 (Int.ofNat 0), AV.int IntKind.i64 (Int.negSucc 0), AV.int IntKind.i64 (Int.ofNat 0)]), (7, oM2), (8, om), (1, AObj.cells true wfB)], len := 4, esc := none, wr := [13, 13, 13, 13, 7] }, nx := 17 } }, [], [Qst.snd (Task.call 28 [AV.ptr 7 0, AV.agg [AV.int IntKind.u8 (Int.ofNat 8), AV.int IntKind.i64 (Int.ofNat th), AV.int IntKind.i64 (Int.ofNat 2)]] { h := { bs := [(13, AObj.cells false [AV.bool true, AV.bool true, AV.int IntKind.u64 (Int.ofNat num), AV.int IntKind.i64 lk, AV.int IntKind.i64 (Int.ofNat th), AV.int IntKind.i64 (Int.ofNat all), AV.int IntKind.i64 (Int.ofNat 2), AV.int IntKind.i64 wt, AV.int IntKind.i64 (Int.ofNat 0)]), (7, oM), (8, om), (1, AObj.cells true wfB)], len := 4, esc := none, wr := [] }, nx := 17 }) { e := AExit.ret, ts := [AV.int IntKind.u64 (Int.ofNat v)], s := { h := { bs := [(13, AObj.cells false [AV.bool true, AV.bool true, AV.int IntKind.u64 (Int.ofNat num), AV.int IntKind.i64 lk, AV.int IntKind.i64 (Int.ofNat th), AV.int IntKind.i64 (Int.ofNat all), AV.int IntKind.i64 (Int.ofNat 2), AV.int IntKind.i64 wt, AV.int IntKind.i64 (Int.ofNat 0)]), (7, oM2), (8, om), (1, AObj.cells true wfB)], len := 4, esc := none, wr := [7] }, nx := 17 } }, Qst.pure [] 84 [AV.int IntKind.u64 (Int.ofNat num), AV.int IntKind.u64 (Int.ofNat v)] (AV.bool true), Qst.val (some (AV.int IntKind.i64 (IntKind.i64.wrap (Int.ofNat (th + 1))))) (AV.int IntKind.i64 (Int.ofNat (th + 1))), Qst.val (some (AV.bool (decide (Int.ofNat (th + 1) ≥ Int.ofNat all)))) (AV.bool true)]) := by kernel_rfl
theorem pb3_n (oM oM2 om : AObj) (num th all v _ : Nat) (lk _ wt _ : Int) : runX Tryz.prog none_ 60 72 (.call 72 [.ptr 13 0, .ptr 7 0] ⟨⟨[(13, .cells false [.bool true, .bool true, .int .u64 (Int.ofNat num), .int .i64 lk, .int .i64 (Int.ofNat th), .int .i64 (Int.ofNat all), .int .i64 (Int.ofNat 2), .int .i64 wt, .int .i64 (Int.ofNat 0)]), (7, oM), (8, om), (1, .cells true wfB)], 4, none, []⟩, 17⟩) [.call 72 9 19 (.int .u64 (Int.ofNat v)) (fun s => s.set 7 oM2), .pure 81 3 5 [] (.bool false), .val 72 13 13 (.bool false)] = some ({ e := AExit.ret, ts := [AV.bool false], s := { h := { bs := [(13, AObj.cells false [AV.bool true, AV.bool true, AV.int IntKind.u64 (Int.ofNat num), AV.int IntKind.i64 lk, AV.int IntKind.i64 (Int.ofNat th), AV.int IntKind.i64 (Int.ofNat all), AV.int IntKind.i64 (Int.ofNat 3), AV.int IntKind.i64 wt, AV.int IntKind.i64 (Int.ofNat 0)]), (7, oM2), (8, om), (1, AObj.cells true wfB)], len := 4, esc := none, wr := [13, 7] }, nx := 17 } }, [], [Qst.snd (Task.call 28 [AV.ptr 7 0, AV.agg [AV.int IntKind.u8 (Int.ofNat 8), AV.int IntKind.i64 (Int.ofNat th), AV.int IntKind.i64 (Int.ofNat 2)]] { h := { bs := [(13, AObj.cells false [AV.bool true, AV.bool true, AV.int IntKind.u64 (Int.ofNat num), AV.int IntKind.i64 lk, AV.int IntKind.i64 (Int.ofNat th), AV.int IntKind.i64 (Int.ofNat all), AV.int IntKind.i64 (Int.ofNat 2), AV.int IntKind.i64 wt, AV.int IntKind.i64 (Int.ofNat 0)]), (7, oM), (8, om), (1, AObj.cells true wfB)], len := 4, esc := none, wr := [] }, nx := 17 }) { e := AExit.ret, ts := [AV.int IntKind.u64 (Int.ofNat v)], s := { h := { bs := [(13, AObj.cells false [AV.bool true, AV.bool true, AV.int IntKind.u64 (Int.ofNat num), AV.int IntKind.i64 lk, AV.int IntKind.i64 (Int.ofNat th), AV.int IntKind.i64 (Int.ofNat all), AV.int IntKind.i64 (Int.ofNat 2), AV.int IntKind.i64 wt, AV.int IntKind.i64 (Int.ofNat 0)]), (7, oM2), (8, om), (1, AObj.cells true wfB)], len := 4, esc := none, wr := [7] }, nx := 17 } }, Qst.pure [] 84 [AV.int IntKind.u64 (Int.ofNat num), AV.int IntKind.u64 (Int.ofNat v)] (AV.bool false), Qst.val (some (AV.bool (decide (Int.ofNat th ≥ Int.ofNat all)))) (AV.bool false)]) := by kernel_rfl
theorem pb4_c (oM oM2 om : AObj) (num th all v _ : Nat) (lk _ wt _ : Int) : runX Tryz.prog none_ 60 72 (.call 72 [.ptr 13 0, .ptr 7 0] ⟨⟨[(13, .cells false [.bool true, .bool true, .int .u64 (Int.ofNat num), .int .i64 lk, .int .i64 (Int.ofNat th), .int .i64 (Int.ofNat all), .int .i64 (Int.ofNat 3), .int .i64 wt, .int .i64 (Int.ofNat 0)]), (7, oM), (8, om), (1, .cells true wfB)], 4, none, []⟩, 17⟩) [.call 72 9 19 (.int .u64 (Int.ofNat v)) (fun s => s.set 7 oM2), .val 81 5 1 (.bool true), .val 72 10 7 (.int .i64 (Int.ofNat (th + 1))), .val 72 13 13 (.bool false)] = some ({ e := AExit.ret, ts := [AV.bool false], s := { h := { bs := [(13, AObj.cells false [AV.bool true, AV.bool true, AV.int IntKind.u64 (Int.ofNat num), AV.int IntKind.i64 lk, AV.int IntKind.i64 (Int.ofNat (th + 1)), AV.int IntKind.i64 (Int.ofNat all), AV.int IntKind.i64 (Int.ofNat 0), AV.int IntKind.i64 (Int.negSucc 0), AV.int IntKind.i64 (Int.ofNat 0)]), (7, oM2), (8, om), (1, AObj.cells true wfB)], len := 4, esc := none, wr := [13, 13, 13, 7] }, nx := 17 } }, [], [Qst.snd (Task.call 28 [AV.ptr 7 0, AV.agg [AV.int IntKind.u8 (Int.ofNat 8), AV.int IntKind.i64 (Int.ofNat th), AV.int IntKind.i64 (Int.ofNat 6)]] { h := { bs := [(13, AObj.cells false [AV.bool true, AV.bool true, AV.int IntKind.u64 (Int.ofNat num), AV.int IntKind.i64 lk, AV.int IntKind.i64 (Int.ofNat th), AV.int IntKind.i64 (Int.ofNat all), AV.int IntKind.i64 (Int.ofNat 3), AV.int IntKind.i64 wt, AV.int IntKind.i64 (Int.ofNat 0)]), (7, oM), (8, om), (1, AObj.cells true wfB)], len := 4, esc := none, wr := [] }, nx := 17 }) { e := AExit.ret, ts := [AV.int IntKind.u64 (Int.ofNat v)], s := { h := { bs := [(13, AObj.cells false [AV.bool true, AV.bool true, AV.int IntKind.u64 (Int.ofNat num), AV.int IntKind.i64 lk, AV.int IntKind.i64 (Int.ofNat th), AV.int IntKind.i64 (Int.ofNat all), AV.int IntKind.i64 (Int.ofNat 3), AV.int IntKind.i64 wt, AV.int IntKind.i64 (Int.ofNat 0)]), (7, oM2), (8, om), (1, AObj.cells true wfB)], len := 4, esc := none, wr := [7] }, nx := 17 } }, Qst.val (some (AV.bool (Int.ofNat v != Int.ofNat 0))) (AV.bool true), Qst.val (some (AV.int IntKind.i64 (IntKind.i64.wrap (Int.ofNat (th + 1))))) (AV.int IntKind.i64 (Int.ofNat (th + 1))), Qst.val (some (AV.bool (decide (Int.ofNat (th + 1) ≥ Int.ofNat all)))) (AV.bool false)]) := by kernel_rfl
theorem pb4_o (oM oM2 om : AObj) (num th all v _ : Nat) (lk _ wt _ : Int) : runX Tryz.prog none_ 60 72 (.call 72 [.ptr 13 0, .ptr 7 0] ⟨⟨[(13, .cells false [.bool true, .bool true, .int .u64 (Int.ofNat num), .int .i64 lk, .int .i64 (Int.ofNat th), .int .i64 (Int.ofNat all), .int .i64 (Int.ofNat 3), .int .i64 wt, .int .i64 (Int.ofNat 0)]), (7, oM), (8, om), (1, .cells true wfB)], 4, none, []⟩, 17⟩) [.call 72 9 19 (.int .u64 (Int.ofNat v)) (fun s => s.set 7 oM2), .val 81 5 1 (.bool true), .val 72 10 7 (.int .i64 (Int.ofNat (th + 1))), .val 72 13 13 (.bool true)] = some ({ e := AExit.ret, ts := [AV.bool true], s := { h := { bs := [(13, AObj.cells false [AV.bool true, AV.bool false, AV.int IntKind.u64 (Int.ofNat num), AV.int IntKind.i64 lk, AV.int IntKind.i64 (Int.ofNat (th + 1)), AV.int IntKind.i64 (Int.ofNat all), AV.int IntKind.i64 (Int.ofNat 0), AV.int IntKind.i64 (Int.negSucc 0), AV.int IntKind.i64 (Int.ofNat 0)]), (7, oM2), (8, om), (1, AObj.cells true wfB)], len := 4, esc := none, wr := [13, 13, 13, 13, 7] }, nx := 17 } }, [], [Qst.snd (Task.call 28 [AV.ptr 7 0, AV.agg [AV.int IntKind.u8 (Int.ofNat 8), AV.int IntKind.i64 (Int.ofNat th), AV.int IntKind.i64 (Int.ofNat 6)]] { h := { bs := [(13, AObj.cells false [AV.bool true, AV.bool true, AV.int IntKind.u64 (Int.ofNat num), AV.int IntKind.i64 lk, AV.int IntKind.i64 (Int.ofNat th), AV.int IntKind.i64 (Int.ofNat all), AV.int IntKind.i64 (Int.ofNat 3), AV.int IntKind.i64 wt, AV.int IntKind.i64 (Int.ofNat 0)]), (7, oM), (8, om), (1, AObj.cells true wfB)], len := 4, esc := none, wr := [] }, nx := 17 }) { e := AExit.ret, ts := [AV.int IntKind.u64 (Int.ofNat v)], s := { h := { bs := [(13, AObj.cells false [AV.bool true, AV.bool true, AV.int IntKind.u64 (Int.ofNat num), AV.int IntKind.i64 lk, AV.int IntKind.i64 (Int.ofNat th), AV.int IntKind.i64 (Int.ofNat all), AV.int IntKind.i64 (Int.ofNat 3), AV.int IntKind.i64 wt, AV.int IntKind.i64 (Int.ofNat 0)]), (7, oM2), (8, om), (1, AObj.cells true wfB)], len := 4, esc := none, wr := [7] }, nx := 17 } }, Qst.val (some (AV.bool (Int.ofNat v != Int.ofNat 0))) (AV.bool true), Qst.val (some (AV.int IntKind.i64 (IntKind.i64.wrap (Int.ofNat (th + 1))))) (AV.int IntKind.i64 (Int.ofNat (th + 1))), Qst.val (some (AV.bool (decide (Int.ofNat (th + 1) ≥ Int.ofNat all)))) (AV.bool true)]) := by kernel_rfl
theorem pb4_a (oM oM2 om : AObj) (num th all v _ : Nat) (lk lk2 wt _ : Int) : runX Tryz.prog none_ 60 72 (.call 72 [.ptr 13 0, .ptr 7 0] ⟨⟨[(13, .cells false [.bool true, .bool true, .int .u64 (Int.ofNat num), .int .i64 lk, .int .i64 (Int.ofNat th), .int .i64 (Int.ofNat all), .int .i64 (Int.ofNat 3), .int .i64 wt, .int .i64 (Int.ofNat 0)]), (7, oM), (8, om), (1, .cells true wfB)], 4, none, []⟩, 17⟩) [.call 72 9 19 (.int .u64 (Int.ofNat v)) (fun s => s.set 7 oM2), .val 81 5 1 (.bool false), .val 72 3 7 (.int .i64 lk2), .val 72 4 4 (.bool true), .val 72 13 13 (.bool false)] = some ({ e := AExit.ret, ts := [AV.bool false], s := { h := { bs := [(13, AObj.cells false [AV.bool true, AV.bool true, AV.int IntKind.u64 (Int.ofNat num), AV.int IntKind.i64 lk2, AV.int IntKind.i64 (Int.ofNat th), AV.int IntKind.i64 (Int.ofNat all), AV.int IntKind.i64 (Int.ofNat 0), AV.int IntKind.i64 (Int.ofNat th), AV.int IntKind.i64 (Int.ofNat 0)]), (7, oM2), (8, om), (1, AObj.cells true wfB)], len := 4, esc := none, wr := [13, 13, 13, 7] }, nx := 17 } }, [], [Qst.snd (Task.call 28 [AV.ptr 7 0, AV.agg [AV.int IntKind.u8 (Int.ofNat 8), AV.int IntKind.i64 (Int.ofNat th), AV.int IntKind.i64 (Int.ofNat 6)]] { h := { bs := [(13, AObj.cells false [AV.bool true, AV.bool true, AV.int IntKind.u64 (Int.ofNat num), AV.int IntKind.i64 lk, AV.int IntKind.i64 (Int.ofNat th), AV.int IntKind.i64 (Int.ofNat all), AV.int IntKind.i64 (Int.ofNat 3), AV.int IntKind.i64 wt, AV.int IntKind.i64 (Int.ofNat 0)]), (7, oM), (8, om), (1, AObj.cells true wfB)], len := 4, esc := none, wr := [] }, nx := 17 }) { e := AExit.ret, ts := [AV.int IntKind.u64 (Int.ofNat v)], s := { h := { bs := [(13, AObj.cells false [AV.bool true, AV.bool true, AV.int IntKind.u64 (Int.ofNat num), AV.int IntKind.i64 lk, AV.int IntKind.i64 (Int.ofNat th), AV.int IntKind.i64 (Int.ofNat all), AV.int IntKind.i64 (Int.ofNat 3), AV.int IntKind.i64 wt, AV.int IntKind.i64 (Int.ofNat 0)]), (7, oM2), (8, om), (1, AObj.cells true wfB)], len := 4, esc := none, wr := [7] }, nx := 17 } }, Qst.val (some (AV.bool (Int.ofNat v != Int.ofNat 0))) (AV.bool false), Qst.val (some (AV.int IntKind.i64 (IntKind.i64.wrap (lk - Int.ofNat 1)))) (AV.int IntKind.i64 lk2), Qst.val (some (AV.bool (decide (lk2 > 0)))) (AV.bool true), Qst.val (some (AV.bool (decide (Int.ofNat th ≥ Int.ofNat all)))) (AV.bool false)]) := by kernel_rfl
theorem pb4_g (oM oM2 om : AObj) (num th all v _ : Nat) (lk lk2 wt _ : Int) : runX Tryz.prog none_ 60 72 (.call 72 [.ptr 13 0, .ptr 7 0] ⟨⟨[(13, .cells false [.bool true, .bool true, .int .u64 (Int.ofNat num), .int .i64 lk, .int .i64 (Int.ofNat th), .int .i64 (Int.ofNat all), .int .i64 (Int.ofNat 3), .int .i64 wt, .int .i64 (Int.ofNat 0)]), (7, oM), (8, om), (1, .cells true wfB)], 4, none, []⟩, 17⟩) [.call 72 9 19 (.int .u64 (Int.ofNat v)) (fun s => s.set 7 oM2), .val 81 5 1 (.bool false), .val 72 3 7 (.int .i64 lk2), .val 72 4 4 (.bool false)] = some ({ e := AExit.ret, ts := [AV.bool true], s := { h := { bs := [(13, AObj.cells false [AV.bool true, AV.bool false, AV.int IntKind.u64 (Int.ofNat num), AV.int IntKind.i64 lk2, AV.int IntKind.i64 (Int.ofNat th), AV.int IntKind.i64 (Int.ofNat all), AV.int IntKind.i64 (Int.ofNat 0), AV.int IntKind.i64 (Int.ofNat th), AV.int IntKind.i64 (Int.ofNat 9)]), (7, oM2), (8, om), (1, AObj.cells true wfB)], len := 4, esc := none, wr := [13, 13, 13, 13, 13, 7] }, nx := 17 } }, [], [Qst.snd (Task.call 28 [AV.ptr 7 0, AV.agg [AV.int IntKind.u8 (Int.ofNat 8), AV.int IntKind.i64 (Int.ofNat th), AV.int IntKind.i64 (Int.ofNat 6)]] { h := { bs := [(13, AObj.cells false [AV.bool true, AV.bool true, AV.int IntKind.u64 (Int.ofNat num), AV.int IntKind.i64 lk, AV.int IntKind.i64 (Int.ofNat th), AV.int IntKind.i64 (Int.ofNat all), AV.int IntKind.i64 (Int.ofNat 3), AV.int IntKind.i64 wt, AV.int IntKind.i64 (Int.ofNat 0)]), (7, oM), (8, om), (1, AObj.cells true wfB)], len := 4, esc := none, wr := [] }, nx := 17 }) { e := AExit.ret, ts := [AV.int IntKind.u64 (Int.ofNat v)], s := { h := { bs := [(13, AObj.cells false [AV.bool true, AV.bool true, AV.int IntKind.u64 (Int.ofNat num), AV.int IntKind.i64 lk, AV.int IntKind.i64 (Int.ofNat th), AV.int IntKind.i64 (Int.ofNat all), AV.int IntKind.i64 (Int.ofNat 3), AV.int IntKind.i64 wt, AV.int IntKind.i64 (Int.ofNat 0)]), (7, oM2), (8, om), (1, AObj.cells true wfB)], len := 4, esc := none, wr := [7] }, nx := 17 } }, Qst.val (some (AV.bool (Int.ofNat v != Int.ofNat 0))) (AV.bool false), Qst.val (some (AV.int IntKind.i64 (IntKind.i64.wrap (lk - Int.ofNat 1)))) (AV.int IntKind.i64 lk2), Qst.val (some (AV.bool (decide (lk2 > 0)))) (AV.bool false)]) := by kernel_rfl
end Go.Proofs.YtcnfblibfndepaaGreatDoor.ctlsCover
namespace Go.Proofs.YtcnfblibfndepaaGreatDoor.ctlsCover
open Go Go.Mini
/-- What is so on a small heap is so where more stands, under the same names. -/
theorem ext0 {f : FuncId} {args : List AV} {r : AV} {bs0 : List (Nat × AObj)} {Fz : List (Nat × List AV)} {n0 nx0 : Nat} {s1 s : AS} {e : AExit} (h : Sound Tryz.prog (.call f args (canF bs0 Fz n0 nx0)) ⟨e, [r], s1⟩) (h3 : 3 ≤ nx0)
    (hF : ∀ x ∈ Fz, x.1 < nx0 ∧ x.1 ∉ bs0.map (·.1) ∧ namess (fun _ => false) x.2 = true ∧ ∃ ro, s.get x.1 = some (.cells ro x.2))
    (hb : eachX (fun b o => b < nx0 ∧ o.rw = true ∧ o.names (fun c => Nat.blt c nx0) = true ∧ getB bs0 b = some o ∧ s.get b = some o ∧ ((objAt s1 b).rw = true ∨ objAt s1 b = .dead) ∧ (objAt s1 b).names (fun c => Nat.blt c nx0) = true) bs0)
    (hd : (bs0.map (·.1)).Nodup) (ha : namess (fun b => Nat.blt b nx0) args = true) (hr : r.names (fun b => Nat.blt b nx0) = true) :
    Sound Tryz.prog (.call f args s) ⟨.ret, [r], setL s ((bs0.map (·.1)).map fun b => (b, objAt s1 b))⟩ := by
  have hp : ∀ b, Nat.blt b nx0 = true → pR nx0 [] (fun b => b) s.nx b = b := fun b hb => if_pos (by simpa using hb)
  have := Sound.putFG h (fun b => b) (fun g hg => ⟨by rw [gl3] at hg; omega, rfl⟩) [] s (fun x hx => ⟨(hF x hx).1, (hF x hx).2.1, (hF x hx).2.2.1, (hF x hx).2.2.2, fun b hb he => (hF x hx).2.1 (he ▸ hb)⟩) ?_ (fun _ _ _ _ h => h) hd List.nodup_nil (fun b hb => by cases hb) ha (names_sub (fun b hb => by unfold pN; rw [hb]; rfl) hr)
  · rw [rens_id, ren_congr (π' := fun b => b) hp hr, ren_id] at this
    have e : ((bs0.map (·.1)).map fun b => (b, (objAt s1 b).ren (pR nx0 [] (fun b => b) s.nx))) = (bs0.map (·.1)).map fun b => (b, objAt s1 b) := by
      refine List.map_congr_left fun b hb' => ?_
      obtain ⟨x, hx, rfl⟩ := List.mem_map.1 hb'
      obtain ⟨_, _, _, _, _, _, h7⟩ := eachX_mem hb x hx
      rw [oren_congr (π' := fun b => b) hp h7, oren_id]
    rw [e] at this
    exact this
  · have : ∀ l : List (Nat × AObj), eachX (fun b o => b < nx0 ∧ o.rw = true ∧ o.names (fun c => Nat.blt c nx0) = true ∧ getB bs0 b = some o ∧ s.get b = some o ∧ ((objAt s1 b).rw = true ∨ objAt s1 b = .dead) ∧ (objAt s1 b).names (fun c => Nat.blt c nx0) = true) l → eachX (fun b o => b < nx0 ∧ o.rw = true ∧ o.names (fun c => Nat.blt c nx0) = true ∧ getB bs0 b = some o ∧ s.get b = some (o.ren fun b => b) ∧ ((objAt s1 b).rw = true ∨ objAt s1 b = .dead) ∧ (objAt s1 b).names (pN nx0 []) = true) l := by
      intro l
      induction l with
      | nil => intro h; trivial
      | cons x t ih =>
        intro h
        obtain ⟨⟨h1, h2, h3, h4, h5, h6, h7⟩, ht⟩ := h
        exact ⟨⟨h1, h2, h3, h4, by rw [oren_id]; exact h5, h6, onames_sub (fun b hb => by unfold pN; rw [hb]; rfl) h7⟩, ih ht⟩
    exact this _ hb
/-! ### Reached -/
def rch (n v : Nat) : Bool := decide ((v % 281474976710656 + 281474976710656 - n) % 281474976710656 < 140737488355328)
theorem lt_cast (x y : Nat) : decide (Int.ofNat x < (y : Int)) = decide (x < y) := by
  rw [decide_eq_decide]
  simp only [Int.ofNat_eq_natCast]
  omega
theorem q_rch (d : Nat) : some (AV.bool (decide (Int.ofNat d < 140737488355328))) = some (AV.bool (decide (d < 140737488355328))) := congrArg (fun x => some (AV.bool x)) (lt_cast d 140737488355328)
theorem q_tmod (d : Nat) : some (AV.int .u64 ((Int.ofNat d).tmod 281474976710656)) = some (AV.int .u64 (Int.ofNat (d % 281474976710656))) := rfl
theorem rchP_call (n v : Nat) (hn : n < 281474976710656) (hv : v < 18446744073709551616) (s : AS) : Sound Tryz.prog (.call 84 [.int .u64 (Int.ofNat n), .int .u64 (Int.ofNat v)] s) ⟨.ret, [.bool (rch n v)], s⟩ := by
  refine Sound.pure (G := []) (runX_sound mixed none_sound (rch_p n v ((v + 18446744073709551616 - n) % 18446744073709551616) ((v % 281474976710656 + 281474976710656 - n) % 281474976710656) (rch n v)) ⟨?_, ?_, ?_, trivial⟩) rfl rfl rfl rfl
  · show some _ = some _
    congr 2
    simp only [IntKind.wrap, IntKind.bits, IntKind.signed, Int.ofNat_eq_natCast]
    simp
    omega
  · refine (q_tmod _).trans ?_
    rw [show (v + 18446744073709551616 - n) % 18446744073709551616 % 281474976710656 = (v % 281474976710656 + 281474976710656 - n) % 281474976710656 from by omega]
  · exact q_rch _
theorem rchPq (n v : Nat) (r : Bool) (hn : n < 281474976710656) (hv : v < 18446744073709551616) (h : rch n v = r) : Qst.ok Tryz.prog (.pure [] 84 [.int .u64 (Int.ofNat n), .int .u64 (Int.ofNat v)] (.bool r)) := by
  subst h
  exact fun s _ => rchP_call n v hn hv s
/-! ### barriers, plainly -/
structure Br where
  num : Nat
  lk : Int
  th : Nat
  all : Nat
  at_ : Nat
  wt : Int
def mlk (l : Int) : Int := if 1 > l then 1 else l
def fldN : Nat → Int
  | 1 => 0
  | 2 => 1
  | 3 => 2
  | _ => 6
def Br.adr (b : Br) : A3 := if b.at_ = 0 then (5, 0, 0) else (8, Int.ofNat b.th, fldN b.at_)
def Br.passes (b : Br) (v : Nat) : Bool := if b.at_ = 3 then rch b.num v else if b.at_ = 4 then decide (v ≠ 0) else decide (v = 0)
/-- What a step makes of it; 0: it goes on; 1: it is over, with OK; 2: it gave up. -/
def Br.step (b : Br) (v : Nat) : Br × Nat :=
  if b.at_ = 0 then (if v = 0 then (⟨b.num, b.lk, 0, 0, 0, -1⟩, 1) else (⟨b.num, b.lk, 0, 4 * (if 4 < v then 4 else v), 1, -1⟩, 0))
  else if b.passes v = true then (⟨b.num, b.lk, b.th + 1, b.all, 1, -1⟩, if b.th + 1 = b.all then 1 else 0)
  else if b.at_ = 4 then (if b.lk ≤ 1 then (⟨b.num, b.lk, b.th, b.all, 1, Int.ofNat b.th⟩, 2) else (⟨b.num, b.lk - 1, b.th, b.all, 1, Int.ofNat b.th⟩, 0))
  else (⟨b.num, b.lk, b.th, b.all, b.at_ + 1, b.wt⟩, 0)
def Br.PO (b : Br) : Nat → List AV
  | 0 => [.bool true, .bool true, .int .u64 (Int.ofNat b.num), .int .i64 (mlk b.lk), .int .i64 (Int.ofNat b.th), .int .i64 (Int.ofNat b.all), .int .i64 (Int.ofNat b.at_ - 1), .int .i64 b.wt, .int .i64 (Int.ofNat 0)]
  | 1 => [.bool true, .bool false, .int .u64 (Int.ofNat b.num), .int .i64 (mlk b.lk), .int .i64 (Int.ofNat b.th), .int .i64 (Int.ofNat b.all), .int .i64 (Int.ofNat 0), .int .i64 b.wt, .int .i64 (Int.ofNat 0)]
  | _ => [.bool true, .bool false, .int .u64 (Int.ofNat b.num), .int .i64 (Int.ofNat 0), .int .i64 (Int.ofNat b.th), .int .i64 (Int.ofNat b.all), .int .i64 (Int.ofNat 0), .int .i64 b.wt, .int .i64 (Int.ofNat 9)]
def Br.RO (b : Br) : Nat → List AV
  | 0 => [.int .i64 (Int.ofNat (b.at_ + 1)), .int .u64 (Int.ofNat b.num), .int .i64 b.lk, .int .i64 (Int.ofNat 4), .int .i64 b.wt, .int .i64 (Int.ofNat b.th), .int .i64 (Int.ofNat b.all)]
  | 1 => [.int .i64 (Int.ofNat 0), .int .u64 (Int.ofNat b.num), .int .i64 b.lk, .int .i64 (Int.ofNat 0), .int .i64 b.wt, .int .i64 (Int.ofNat b.th), .int .i64 (Int.ofNat b.all)]
  | _ => [.int .i64 (Int.ofNat 0), .int .u64 (Int.ofNat b.num), .int .i64 b.lk, .int .i64 (Int.ofNat 9), .int .i64 b.wt, .int .i64 (Int.ofNat b.th), .int .i64 (Int.ofNat b.all)]
structure Br.Ok (b : Br) : Prop where
  num : b.num < 281474976710656
  at_ : b.at_ ≤ 4
  lk0 : -9223372036854775808 ≤ b.lk
  lk1 : b.lk ≤ 40
  all : b.all ≤ 16
  zero : b.at_ = 0 → b.th = 0 ∧ b.all = 0 ∧ b.wt = -1
  th : b.at_ ≠ 0 → b.th < b.all
theorem Br.PO_names (b : Br) (k : Nat) (p : Nat → Bool) : namess p (b.PO k) = true := by
  match k with
  | 0 => rfl
  | 1 => rfl
  | k + 2 => rfl
theorem mlk_pos (l : Int) (h : l ≤ 1) : mlk l = 1 := by unfold mlk; split <;> omega
theorem mlk_one (l : Int) (h : ¬ l ≤ 1) : mlk l = l := by unfold mlk; split <;> omega
theorem mlk_dec (l : Int) (h : ¬ l ≤ 1) : mlk (l - 1) = l - 1 := by unfold mlk; split <;> omega
theorem q_ge2 {x y : Nat} {v : Bool} (h : decide (y ≤ x) = v) : some (AV.bool (decide (Int.ofNat x ≥ Int.ofNat y))) = some (AV.bool v) := by
  subst h
  by_cases h : y ≤ x
  · simp [h]
  · simp [h]
section
variable {b : Br} (hB : b.Ok) {m : PM} (hv : getW m.ms b.adr < 18446744073709551616)
include hB hv
/-- A step of the program's barrier, on a small heap. -/
theorem barP_small : ∃ s1, Sound Tryz.prog (.call 72 [.ptr 13 0, .ptr 7 0] (canF [(13, .cells false (b.PO 0)), (7, .cells false (m.C (.map 8))), (8, mapO m.ms)] [(1, wfB)] 4 17)) ⟨.ret, [.bool (decide ((b.step (getW m.ms b.adr)).2 ≠ 0))], s1⟩ ∧
    s1.get 13 = some (.cells false ((b.step (getW m.ms b.adr)).1.PO (b.step (getW m.ms b.adr)).2)) ∧ s1.get 7 = some (.cells false ((m.load b.adr).C (.map 8))) ∧ s1.get 8 = some (mapO m.ms) := by
  obtain ⟨num, lk, th, all, at_, wt⟩ := b
  obtain ⟨h1, h2, h3, h4, h5, h6, h7⟩ := hB
  simp only at h1 h2 h3 h4 h5 h6 h7
  have ld : ∀ (a : A3) (s : AS), s.get 7 = some (.cells false (m.C (.map 8))) → s.get 8 = some (mapO m.ms) → Sound Tryz.prog (.call 28 [.ptr 7 0, .agg (ak a)] s) ⟨.ret, [.int .u64 (Int.ofNat (getW m.ms a))], s.set 7 (.cells false ((m.load a).C (.map 8)))⟩ := fun a s k7 k8 => pload_at k7 k8 a
  have h8 : at_ = 0 ∨ at_ = 1 ∨ at_ = 2 ∨ at_ = 3 ∨ at_ = 4 := by omega
  generalize hvv : getW m.ms (Br.adr ⟨num, lk, th, all, at_, wt⟩) = v at hv
  rcases h8 with rfl | rfl | rfl | rfl | rfl
  · obtain ⟨rfl, rfl, rfl⟩ := h6 rfl
    have l0 := ld (5, 0, 0)
    have e : getW m.ms ((5, 0, 0) : A3) = v := hvv
    rw [e] at l0
    by_cases h0 : v = 0
    · subst h0
      rw [show Br.step ⟨num, lk, 0, 0, 0, -1⟩ 0 = (⟨num, lk, 0, 0, 0, -1⟩, 1) from rfl]
      exact ⟨_, runX_sound mixed none_sound (pb0_o (.cells false (m.C (.map 8))) (.cells false ((m.load (5, 0, 0)).C (.map 8))) (mapO m.ms) num 0 0 0 0 (mlk lk) 0 (-1) 0) ⟨l0 _ rfl rfl, by simp [Qst.ok], i64_of (by omega), i64_of (n := 0 * 4) (by omega), q_ge2 (by simp), trivial⟩, rfl, rfl, rfl⟩
    · have es : Br.step ⟨num, lk, 0, 0, 0, -1⟩ v = (⟨num, lk, 0, 4 * (if 4 < v then 4 else v), 1, -1⟩, 0) := by
        unfold Br.step
        rw [if_pos rfl, if_neg h0]
      rw [es]
      have hm : (if 4 < v then 4 else v) ≤ 4 := by split <;> omega
      have hz : (if 4 < v then 4 else v) ≠ 0 := by split <;> omega
      have q1 : some (AV.int .u64 (if (4 : Int) < Int.ofNat v then Int.ofNat 4 else Int.ofNat v)) = some (AV.int .u64 (Int.ofNat (if 4 < v then 4 else v))) := by
        by_cases h : 4 < v
        · rw [if_pos h, if_pos (by simp only [Int.ofNat_eq_natCast]; omega)]
        · rw [if_neg h, if_neg (by simp only [Int.ofNat_eq_natCast]; omega)]
      generalize (if 4 < v then 4 else v) = a2 at hm hz q1
      exact ⟨_, runX_sound mixed none_sound (pb0_c (.cells false (m.C (.map 8))) (.cells false ((m.load (5, 0, 0)).C (.map 8))) (mapO m.ms) num 0 0 v a2 (mlk lk) 0 (-1) 0) ⟨l0 _ rfl rfl, q1, i64_of (by omega), (i64_of (n := a2 * 4) (by omega)).trans (by rw [Nat.mul_comm]), q_ge2 (by simp; omega), trivial⟩, rfl, rfl, rfl⟩
  · have hth := h7 (by decide)
    have l0 := ld (8, Int.ofNat th, 0)
    have e : getW m.ms ((8, Int.ofNat th, 0) : A3) = v := hvv
    rw [e] at l0
    by_cases hp : v = 0
    · have hpa : Br.passes ⟨num, lk, th, all, 1, wt⟩ v = true := by
        show decide (v = 0) = true
        simp [hp]
      by_cases ho : th + 1 = all
      · have es : Br.step ⟨num, lk, th, all, 1, wt⟩ v = (⟨num, lk, th + 1, all, 1, -1⟩, 1) := by
          unfold Br.step
          rw [if_neg (by simp), if_pos hpa, if_pos ho]
        rw [es]
        exact ⟨_, runX_sound mixed none_sound (pb1_o (.cells false (m.C (.map 8))) (.cells false ((m.load (8, Int.ofNat th, 0)).C (.map 8))) (mapO m.ms) num th all v 0 (mlk lk) 0 wt 0) ⟨l0 _ rfl rfl, qeq v 0 true (by simp [hp]), i64_of (by omega), q_ge2 (x := th + 1) (y := all) (v := true) (by simp; omega), trivial⟩, rfl, rfl, rfl⟩
      · have es : Br.step ⟨num, lk, th, all, 1, wt⟩ v = (⟨num, lk, th + 1, all, 1, -1⟩, 0) := by
          unfold Br.step
          rw [if_neg (by simp), if_pos hpa, if_neg ho]
        rw [es]
        exact ⟨_, runX_sound mixed none_sound (pb1_c (.cells false (m.C (.map 8))) (.cells false ((m.load (8, Int.ofNat th, 0)).C (.map 8))) (mapO m.ms) num th all v 0 (mlk lk) 0 wt 0) ⟨l0 _ rfl rfl, qeq v 0 true (by simp [hp]), i64_of (by omega), q_ge2 (x := th + 1) (y := all) (v := false) (by simp; omega), trivial⟩, rfl, rfl, rfl⟩
    · have hpa : ¬ Br.passes ⟨num, lk, th, all, 1, wt⟩ v = true := by
        show ¬ decide (v = 0) = true
        simpa using hp
      have es : Br.step ⟨num, lk, th, all, 1, wt⟩ v = (⟨num, lk, th, all, 2, wt⟩, 0) := by
        unfold Br.step
        rw [if_neg (by simp), if_neg hpa, if_neg (by simp)]
      rw [es]
      exact ⟨_, runX_sound mixed none_sound (pb1_n (.cells false (m.C (.map 8))) (.cells false ((m.load (8, Int.ofNat th, 0)).C (.map 8))) (mapO m.ms) num th all v 0 (mlk lk) 0 wt 0) ⟨l0 _ rfl rfl, qeq v 0 false (by simp [hp]), q_ge2 (x := th) (y := all) (v := false) (by simp; omega), trivial⟩, rfl, rfl, rfl⟩
  · have hth := h7 (by decide)
    have l0 := ld (8, Int.ofNat th, 1)
    have e : getW m.ms ((8, Int.ofNat th, 1) : A3) = v := hvv
    rw [e] at l0
    by_cases hp : v = 0
    · have hpa : Br.passes ⟨num, lk, th, all, 2, wt⟩ v = true := by
        show decide (v = 0) = true
        simp [hp]
      by_cases ho : th + 1 = all
      · have es : Br.step ⟨num, lk, th, all, 2, wt⟩ v = (⟨num, lk, th + 1, all, 1, -1⟩, 1) := by
          unfold Br.step
          rw [if_neg (by simp), if_pos hpa, if_pos ho]
        rw [es]
        exact ⟨_, runX_sound mixed none_sound (pb2_o (.cells false (m.C (.map 8))) (.cells false ((m.load (8, Int.ofNat th, 1)).C (.map 8))) (mapO m.ms) num th all v 0 (mlk lk) 0 wt 0) ⟨l0 _ rfl rfl, qeq v 0 true (by simp [hp]), i64_of (by omega), q_ge2 (x := th + 1) (y := all) (v := true) (by simp; omega), trivial⟩, rfl, rfl, rfl⟩
      · have es : Br.step ⟨num, lk, th, all, 2, wt⟩ v = (⟨num, lk, th + 1, all, 1, -1⟩, 0) := by
          unfold Br.step
          rw [if_neg (by simp), if_pos hpa, if_neg ho]
        rw [es]
        exact ⟨_, runX_sound mixed none_sound (pb2_c (.cells false (m.C (.map 8))) (.cells false ((m.load (8, Int.ofNat th, 1)).C (.map 8))) (mapO m.ms) num th all v 0 (mlk lk) 0 wt 0) ⟨l0 _ rfl rfl, qeq v 0 true (by simp [hp]), i64_of (by omega), q_ge2 (x := th + 1) (y := all) (v := false) (by simp; omega), trivial⟩, rfl, rfl, rfl⟩
    · have hpa : ¬ Br.passes ⟨num, lk, th, all, 2, wt⟩ v = true := by
        show ¬ decide (v = 0) = true
        simpa using hp
      have es : Br.step ⟨num, lk, th, all, 2, wt⟩ v = (⟨num, lk, th, all, 3, wt⟩, 0) := by
        unfold Br.step
        rw [if_neg (by simp), if_neg hpa, if_neg (by simp)]
      rw [es]
      exact ⟨_, runX_sound mixed none_sound (pb2_n (.cells false (m.C (.map 8))) (.cells false ((m.load (8, Int.ofNat th, 1)).C (.map 8))) (mapO m.ms) num th all v 0 (mlk lk) 0 wt 0) ⟨l0 _ rfl rfl, qeq v 0 false (by simp [hp]), q_ge2 (x := th) (y := all) (v := false) (by simp; omega), trivial⟩, rfl, rfl, rfl⟩
  · have hth := h7 (by decide)
    have l0 := ld (8, Int.ofNat th, 2)
    have e : getW m.ms ((8, Int.ofNat th, 2) : A3) = v := hvv
    rw [e] at l0
    by_cases hp : rch num v = true
    · have hpa : Br.passes ⟨num, lk, th, all, 3, wt⟩ v = true := by
        unfold Br.passes
        rw [if_pos rfl]
        exact hp
      by_cases ho : th + 1 = all
      · have es : Br.step ⟨num, lk, th, all, 3, wt⟩ v = (⟨num, lk, th + 1, all, 1, -1⟩, 1) := by
          unfold Br.step
          rw [if_neg (by simp), if_pos hpa, if_pos ho]
        rw [es]
        exact ⟨_, runX_sound mixed none_sound (pb3_o (.cells false (m.C (.map 8))) (.cells false ((m.load (8, Int.ofNat th, 2)).C (.map 8))) (mapO m.ms) num th all v 0 (mlk lk) 0 wt 0) ⟨l0 _ rfl rfl, rchPq num v _ h1 hv hp, i64_of (by omega), q_ge2 (x := th + 1) (y := all) (v := true) (by simp; omega), trivial⟩, rfl, rfl, rfl⟩
      · have es : Br.step ⟨num, lk, th, all, 3, wt⟩ v = (⟨num, lk, th + 1, all, 1, -1⟩, 0) := by
          unfold Br.step
          rw [if_neg (by simp), if_pos hpa, if_neg ho]
        rw [es]
        exact ⟨_, runX_sound mixed none_sound (pb3_c (.cells false (m.C (.map 8))) (.cells false ((m.load (8, Int.ofNat th, 2)).C (.map 8))) (mapO m.ms) num th all v 0 (mlk lk) 0 wt 0) ⟨l0 _ rfl rfl, rchPq num v _ h1 hv hp, i64_of (by omega), q_ge2 (x := th + 1) (y := all) (v := false) (by simp; omega), trivial⟩, rfl, rfl, rfl⟩
    · have hpa : ¬ Br.passes ⟨num, lk, th, all, 3, wt⟩ v = true := by
        unfold Br.passes
        rw [if_pos rfl]
        exact hp
      have hpf : rch num v = false := by simpa using hp
      have es : Br.step ⟨num, lk, th, all, 3, wt⟩ v = (⟨num, lk, th, all, 4, wt⟩, 0) := by
        unfold Br.step
        rw [if_neg (by simp), if_neg hpa, if_neg (by simp)]
      rw [es]
      exact ⟨_, runX_sound mixed none_sound (pb3_n (.cells false (m.C (.map 8))) (.cells false ((m.load (8, Int.ofNat th, 2)).C (.map 8))) (mapO m.ms) num th all v 0 (mlk lk) 0 wt 0) ⟨l0 _ rfl rfl, rchPq num v _ h1 hv hpf, q_ge2 (x := th) (y := all) (v := false) (by simp; omega), trivial⟩, rfl, rfl, rfl⟩
  · have hth := h7 (by decide)
    have l0 := ld (8, Int.ofNat th, 6)
    have e : getW m.ms ((8, Int.ofNat th, 6) : A3) = v := hvv
    rw [e] at l0
    by_cases hp : v ≠ 0
    · have hpa : Br.passes ⟨num, lk, th, all, 4, wt⟩ v = true := by
        show decide (v ≠ 0) = true
        simp [hp]
      by_cases ho : th + 1 = all
      · have es : Br.step ⟨num, lk, th, all, 4, wt⟩ v = (⟨num, lk, th + 1, all, 1, -1⟩, 1) := by
          unfold Br.step
          rw [if_neg (by simp), if_pos hpa, if_pos ho]
        rw [es]
        exact ⟨_, runX_sound mixed none_sound (pb4_o (.cells false (m.C (.map 8))) (.cells false ((m.load (8, Int.ofNat th, 6)).C (.map 8))) (mapO m.ms) num th all v 0 (mlk lk) 0 wt 0) ⟨l0 _ rfl rfl, qne v 0 true (by simp [hp]), i64_of (by omega), q_ge2 (x := th + 1) (y := all) (v := true) (by simp; omega), trivial⟩, rfl, rfl, rfl⟩
      · have es : Br.step ⟨num, lk, th, all, 4, wt⟩ v = (⟨num, lk, th + 1, all, 1, -1⟩, 0) := by
          unfold Br.step
          rw [if_neg (by simp), if_pos hpa, if_neg ho]
        rw [es]
        exact ⟨_, runX_sound mixed none_sound (pb4_c (.cells false (m.C (.map 8))) (.cells false ((m.load (8, Int.ofNat th, 6)).C (.map 8))) (mapO m.ms) num th all v 0 (mlk lk) 0 wt 0) ⟨l0 _ rfl rfl, qne v 0 true (by simp [hp]), i64_of (by omega), q_ge2 (x := th + 1) (y := all) (v := false) (by simp; omega), trivial⟩, rfl, rfl, rfl⟩
    · have hpa : ¬ Br.passes ⟨num, lk, th, all, 4, wt⟩ v = true := by
        show ¬ decide (v ≠ 0) = true
        simpa using hp
      by_cases hl : lk ≤ 1
      · have es : Br.step ⟨num, lk, th, all, 4, wt⟩ v = (⟨num, lk, th, all, 1, Int.ofNat th⟩, 2) := by
          unfold Br.step
          rw [if_neg (by simp), if_neg hpa, if_pos rfl, if_pos hl]
        rw [es]
        exact ⟨_, runX_sound mixed none_sound (pb4_g (.cells false (m.C (.map 8))) (.cells false ((m.load (8, Int.ofNat th, 6)).C (.map 8))) (mapO m.ms) num th all v 0 (mlk lk) 0 wt 0) ⟨l0 _ rfl rfl, qne v 0 false (by simp [hp]), by rw [mlk_pos lk hl]; exact i64_of (n := 0) (by omega), by simp [Qst.ok], trivial⟩, rfl, rfl, rfl⟩
      · have es : Br.step ⟨num, lk, th, all, 4, wt⟩ v = (⟨num, lk - 1, th, all, 1, Int.ofNat th⟩, 0) := by
          unfold Br.step
          rw [if_neg (by simp), if_neg hpa, if_pos rfl, if_neg hl]
        rw [es]
        have hs : some (AV.int .i64 (IntKind.i64.wrap (lk - Int.ofNat 1))) = some (AV.int .i64 (lk - 1)) := by
          rw [i64_wrap (by simp only [Int.ofNat_eq_natCast]; omega) (by simp only [Int.ofNat_eq_natCast]; omega)]
          rfl
        exact ⟨_, runX_sound mixed none_sound (pb4_a (.cells false (m.C (.map 8))) (.cells false ((m.load (8, Int.ofNat th, 6)).C (.map 8))) (mapO m.ms) num th all v 0 (mlk lk) (mlk (lk - 1)) wt 0) ⟨l0 _ rfl rfl, qne v 0 false (by simp [hp]), by rw [mlk_one lk hl, mlk_dec lk hl]; exact hs, by rw [mlk_dec lk hl]; simp [Qst.ok]; omega, q_ge2 (x := th) (y := all) (v := false) (by simp; omega), trivial⟩, rfl, rfl, rfl⟩
end
section
variable {b : Br} (hB : b.Ok) {m : PM} (hv : getW m.ms b.adr < 18446744073709551616) {oL : AObj} (hr : Go.Proofs.YtcnfblibfndepaaGreatDoor.ctlsCover.RO m.ms oL) (hl : m.ms.length < 16777000)
include hB hv hr hl
end
end Go.Proofs.YtcnfblibfndepaaGreatDoor.ctlsCover
namespace Go.Proofs.YtcnfblibfndepaaGreatDoor.ctlsCover
open Go Go.Mini
/-! ### how a step of the document's Switch runs -/
end Go.Proofs.YtcnfblibfndepaaGreatDoor.ctlsCover
