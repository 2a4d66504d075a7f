/- The law, whole. Conditions: those that each theorem names, and no others. -/
import Derived.Test.YtmonmmpegmdflaaDoorPlay15
import Derived.Test.YtmonmmpegmdflaaDoorMini3
namespace Go.Proofs.YtmonmmpegmdflaaDoor.ctlsPlay
open Go Go.Mini
/-! ### the law's beginning, run: 5 .. 8 phantoms -/
theorem ja_0 (l0 l1 : AV) (to : Nat) (lk th : Int) (F3 F4 : List AV) : runX Tryd.prog none_ 60 3 (.code (sL (bodyOf Tryd.prog 3)) ([l0, l1, .agg [i8 to, .int .i64 lk, .int .i64 th]] ++ List.replicate 120 undefA) ⟨⟨[(8, .cells false []), (7, .cells false []), (6, .cells false []), (5, .cells false []), (0, .cells true wfW), (1, .cells true wfB), (2, .cells true wfP), (3, .cells true F3), (4, .cells true F4)], 9, none, []⟩, 9⟩) [] = some ({ e := .normal, ts := [l0, l1, .agg [i8 to, .int .i64 lk, .int .i64 th], ud, ud, .ptr 9 0, .bool false, ud, ud, ud, ud, ud, ud, ud, ud, ud, ud, ud, ud, ud, ud, ud, ud, ud, ud, ud, ud, ud, ud, ud, ud, ud, ud, ud, ud, ud, ud, ud, ud, ud, ud, ud, ud, ud, ud, ud, ud, ud, ud, ud, ud, ud, ud, ud, ud, ud, ud, ud, ud, ud, ud, ud, ud, ud, ud, ud, ud, ud, ud, ud, ud, ud, ud, ud, ud, ud, ud, ud, ud, ud, ud, ud, ud, ud, ud, ud, ud, ud, ud, ud, ud, ud, ud, ud, ud, ud, ud, ud, ud, ud, ud, ud, ud, ud, ud, ud, ud, ud, ud, ud, ud, ud, ud, ud, ud, ud, ud, ud, ud, ud, ud, ud, ud], s := ⟨⟨[(9, .cells false [i8 to, .int .i64 lk, .int .i64 th]), (8, .cells false []), (7, .cells false []), (6, .cells false []), (5, .cells false []), (0, .cells true wfW), (1, .cells true wfB), (2, .cells true wfP), (3, .cells true F3), (4, .cells true F4)], 10, none, []⟩, 10⟩ }, [], []) := by kernel_rfl
theorem ja_1 (l0 l1 : AV) (n nb to : Nat) (lk th : Int) (F3 F4 : List AV) : runX Tryd.prog none_ 60 3 (.code (sL (sR (bodyOf Tryd.prog 3))) ([l0, l1, .agg [i8 to, .int .i64 lk, .int .i64 th], undefA, undefA, .ptr 9 0, .bool false] ++ List.replicate 116 undefA) ⟨⟨[(9, .cells false [i8 to, .int .i64 lk, .int .i64 th]), (8, .cells false []), (7, .cells false []), (6, .cells false []), (5, .cells false []), (0, .cells true wfW), (1, .cells true wfB), (2, .cells true wfP), (3, .cells true F3), (4, .cells true F4)], 10, none, []⟩, 10⟩) [.val 3 1 1 (ii n), .val 3 1 2 (.bool false), .val 3 1 5 (ii nb), .val 3 1 6 (.bool false), .val 3 1 11 (.bool false)] = some ({ e := .normal, ts := [l0, l1, .agg [i8 to, .int .i64 lk, .int .i64 th], ud, ud, .ptr 9 0, .bool false, ud, ud, ud, ud, l0, ii n, .bool false, .bool false, l1, ii nb, .bool false, .bool false, .bool false, .ptr 9 1, .int .i64 lk, .bool false, .bool false, ud, ud, ud, ud, ud, ud, ud, ud, ud, ud, ud, ud, ud, ud, ud, ud, ud, ud, ud, ud, ud, ud, ud, ud, ud, ud, ud, ud, ud, ud, ud, ud, ud, ud, ud, ud, ud, ud, ud, ud, ud, ud, ud, ud, ud, ud, ud, ud, ud, ud, ud, ud, ud, ud, ud, ud, ud, ud, ud, ud, ud, ud, ud, ud, ud, ud, ud, ud, ud, ud, ud, ud, ud, ud, ud, ud, ud, ud, ud, ud, ud, ud, ud, ud, ud, ud, ud, ud, ud, ud, ud, ud, ud, ud, ud, ud, ud, ud, ud], s := ⟨⟨[(9, .cells false [i8 to, .int .i64 lk, .int .i64 th]), (8, .cells false []), (7, .cells false []), (6, .cells false []), (5, .cells false []), (0, .cells true wfW), (1, .cells true wfB), (2, .cells true wfP), (3, .cells true F3), (4, .cells true F4)], 10, none, []⟩, 10⟩ }, [], [Qst.ln 22 ⟨⟨[(9, .cells false [i8 to, .int .i64 lk, .int .i64 th]), (8, .cells false []), (7, .cells false []), (6, .cells false []), (5, .cells false []), (0, .cells true wfW), (1, .cells true wfB), (2, .cells true wfP), (3, .cells true F3), (4, .cells true F4)], 10, none, []⟩, 10⟩ l0 (ii n), Qst.val (some (.bool (decide (Int.ofNat n > 300)))) (.bool false), Qst.ln 22 ⟨⟨[(9, .cells false [i8 to, .int .i64 lk, .int .i64 th]), (8, .cells false []), (7, .cells false []), (6, .cells false []), (5, .cells false []), (0, .cells true wfW), (1, .cells true wfB), (2, .cells true wfP), (3, .cells true F3), (4, .cells true F4)], 10, none, []⟩, 10⟩ l1 (ii nb), Qst.val (some (.bool (decide (Int.ofNat nb > 500)))) (.bool false), Qst.val (some (.bool (decide (lk > 40)))) (.bool false)]) := by kernel_rfl
theorem je_1 (l0 l1 : AV) (n _ to : Nat) (lk th : Int) (F3 F4 : List AV) : runX Tryd.prog none_ 60 3 (.code (sL (sR (bodyOf Tryd.prog 3))) ([l0, l1, .agg [i8 to, .int .i64 lk, .int .i64 th], undefA, undefA, .ptr 9 0, .bool false] ++ List.replicate 116 undefA) ⟨⟨[(9, .cells false [i8 to, .int .i64 lk, .int .i64 th]), (8, .cells false []), (7, .cells false []), (6, .cells false []), (5, .cells false []), (0, .cells true wfW), (1, .cells true wfB), (2, .cells true wfP), (3, .cells true F3), (4, .cells true F4)], 10, none, []⟩, 10⟩) [.val 3 1 1 (ii n), .val 3 1 2 (.bool true), .pure 3 2 0 [(0, wfW), (1, wfB), (2, wfP)] (.bool true)] = some ({ e := .ret, ts := [l0, l1, .agg [i8 to, .int .i64 lk, .int .i64 th], ud, ud, .ptr 9 0, .bool true, ud, ud, ud, ud, l0, ii n, .bool true, .bool true, ud, ud, ud, .bool true, .bool true, ud, ud, ud, .bool true, .bool true, ud, ud, ud, ud, ud, ud, ud, ud, ud, ud, ud, ud, ud, ud, ud, ud, ud, ud, ud, ud, ud, ud, ud, ud, ud, ud, ud, ud, ud, ud, ud, ud, ud, ud, ud, ud, ud, ud, ud, ud, ud, ud, ud, ud, ud, ud, ud, ud, ud, ud, ud, ud, ud, ud, ud, ud, ud, ud, ud, ud, ud, ud, ud, ud, ud, ud, ud, ud, ud, ud, ud, ud, ud, ud, ud, ud, ud, ud, ud, ud, ud, ud, ud, ud, ud, ud, ud, ud, ud, ud, ud, ud, ud, ud, ud, ud, ud, ud], s := ⟨⟨[(9, .cells false [i8 to, .int .i64 lk, .int .i64 th]), (8, .cells false []), (7, .cells false []), (6, .cells false []), (5, .cells false []), (0, .cells true wfW), (1, .cells true wfB), (2, .cells true wfP), (3, .cells true F3), (4, .cells true F4)], 10, none, []⟩, 10⟩ }, [], [Qst.ln 22 ⟨⟨[(9, .cells false [i8 to, .int .i64 lk, .int .i64 th]), (8, .cells false []), (7, .cells false []), (6, .cells false []), (5, .cells false []), (0, .cells true wfW), (1, .cells true wfB), (2, .cells true wfP), (3, .cells true F3), (4, .cells true F4)], 10, none, []⟩, 10⟩ l0 (ii n), Qst.val (some (.bool (decide (Int.ofNat n > 300)))) (.bool true), Qst.pure [(0, wfW), (1, wfB), (2, wfP)] 4 [] (.bool true)]) := by kernel_rfl
theorem je_2 (l0 l1 : AV) (n nb to : Nat) (lk th : Int) (F3 F4 : List AV) : runX Tryd.prog none_ 60 3 (.code (sL (sR (bodyOf Tryd.prog 3))) ([l0, l1, .agg [i8 to, .int .i64 lk, .int .i64 th], undefA, undefA, .ptr 9 0, .bool false] ++ List.replicate 116 undefA) ⟨⟨[(9, .cells false [i8 to, .int .i64 lk, .int .i64 th]), (8, .cells false []), (7, .cells false []), (6, .cells false []), (5, .cells false []), (0, .cells true wfW), (1, .cells true wfB), (2, .cells true wfP), (3, .cells true F3), (4, .cells true F4)], 10, none, []⟩, 10⟩) [.val 3 1 1 (ii n), .val 3 1 2 (.bool false), .val 3 1 5 (ii nb), .val 3 1 6 (.bool true), .pure 3 2 0 [(0, wfW), (1, wfB), (2, wfP)] (.bool true)] = some ({ e := .ret, ts := [l0, l1, .agg [i8 to, .int .i64 lk, .int .i64 th], ud, ud, .ptr 9 0, .bool true, ud, ud, ud, ud, l0, ii n, .bool false, .bool false, l1, ii nb, .bool true, .bool true, .bool true, ud, ud, ud, .bool true, .bool true, ud, ud, ud, ud, ud, ud, ud, ud, ud, ud, ud, ud, ud, ud, ud, ud, ud, ud, ud, ud, ud, ud, ud, ud, ud, ud, ud, ud, ud, ud, ud, ud, ud, ud, ud, ud, ud, ud, ud, ud, ud, ud, ud, ud, ud, ud, ud, ud, ud, ud, ud, ud, ud, ud, ud, ud, ud, ud, ud, ud, ud, ud, ud, ud, ud, ud, ud, ud, ud, ud, ud, ud, ud, ud, ud, ud, ud, ud, ud, ud, ud, ud, ud, ud, ud, ud, ud, ud, ud, ud, ud, ud, ud, ud, ud, ud, ud, ud], s := ⟨⟨[(9, .cells false [i8 to, .int .i64 lk, .int .i64 th]), (8, .cells false []), (7, .cells false []), (6, .cells false []), (5, .cells false []), (0, .cells true wfW), (1, .cells true wfB), (2, .cells true wfP), (3, .cells true F3), (4, .cells true F4)], 10, none, []⟩, 10⟩ }, [], [Qst.ln 22 ⟨⟨[(9, .cells false [i8 to, .int .i64 lk, .int .i64 th]), (8, .cells false []), (7, .cells false []), (6, .cells false []), (5, .cells false []), (0, .cells true wfW), (1, .cells true wfB), (2, .cells true wfP), (3, .cells true F3), (4, .cells true F4)], 10, none, []⟩, 10⟩ l0 (ii n), Qst.val (some (.bool (decide (Int.ofNat n > 300)))) (.bool false), Qst.ln 22 ⟨⟨[(9, .cells false [i8 to, .int .i64 lk, .int .i64 th]), (8, .cells false []), (7, .cells false []), (6, .cells false []), (5, .cells false []), (0, .cells true wfW), (1, .cells true wfB), (2, .cells true wfP), (3, .cells true F3), (4, .cells true F4)], 10, none, []⟩, 10⟩ l1 (ii nb), Qst.val (some (.bool (decide (Int.ofNat nb > 500)))) (.bool true), Qst.pure [(0, wfW), (1, wfB), (2, wfP)] 4 [] (.bool true)]) := by kernel_rfl
theorem je_3 (l0 l1 : AV) (n nb to : Nat) (lk th : Int) (F3 F4 : List AV) : runX Tryd.prog none_ 60 3 (.code (sL (sR (bodyOf Tryd.prog 3))) ([l0, l1, .agg [i8 to, .int .i64 lk, .int .i64 th], undefA, undefA, .ptr 9 0, .bool false] ++ List.replicate 116 undefA) ⟨⟨[(9, .cells false [i8 to, .int .i64 lk, .int .i64 th]), (8, .cells false []), (7, .cells false []), (6, .cells false []), (5, .cells false []), (0, .cells true wfW), (1, .cells true wfB), (2, .cells true wfP), (3, .cells true F3), (4, .cells true F4)], 10, none, []⟩, 10⟩) [.val 3 1 1 (ii n), .val 3 1 2 (.bool false), .val 3 1 5 (ii nb), .val 3 1 6 (.bool false), .val 3 1 11 (.bool true), .pure 3 2 0 [(0, wfW), (1, wfB), (2, wfP)] (.bool true)] = some ({ e := .ret, ts := [l0, l1, .agg [i8 to, .int .i64 lk, .int .i64 th], ud, ud, .ptr 9 0, .bool true, ud, ud, ud, ud, l0, ii n, .bool false, .bool false, l1, ii nb, .bool false, .bool false, .bool false, .ptr 9 1, .int .i64 lk, .bool true, .bool true, .bool true, ud, ud, ud, ud, ud, ud, ud, ud, ud, ud, ud, ud, ud, ud, ud, ud, ud, ud, ud, ud, ud, ud, ud, ud, ud, ud, ud, ud, ud, ud, ud, ud, ud, ud, ud, ud, ud, ud, ud, ud, ud, ud, ud, ud, ud, ud, ud, ud, ud, ud, ud, ud, ud, ud, ud, ud, ud, ud, ud, ud, ud, ud, ud, ud, ud, ud, ud, ud, ud, ud, ud, ud, ud, ud, ud, ud, ud, ud, ud, ud, ud, ud, ud, ud, ud, ud, ud, ud, ud, ud, ud, ud, ud, ud, ud, ud, ud, ud], s := ⟨⟨[(9, .cells false [i8 to, .int .i64 lk, .int .i64 th]), (8, .cells false []), (7, .cells false []), (6, .cells false []), (5, .cells false []), (0, .cells true wfW), (1, .cells true wfB), (2, .cells true wfP), (3, .cells true F3), (4, .cells true F4)], 10, none, []⟩, 10⟩ }, [], [Qst.ln 22 ⟨⟨[(9, .cells false [i8 to, .int .i64 lk, .int .i64 th]), (8, .cells false []), (7, .cells false []), (6, .cells false []), (5, .cells false []), (0, .cells true wfW), (1, .cells true wfB), (2, .cells true wfP), (3, .cells true F3), (4, .cells true F4)], 10, none, []⟩, 10⟩ l0 (ii n), Qst.val (some (.bool (decide (Int.ofNat n > 300)))) (.bool false), Qst.ln 22 ⟨⟨[(9, .cells false [i8 to, .int .i64 lk, .int .i64 th]), (8, .cells false []), (7, .cells false []), (6, .cells false []), (5, .cells false []), (0, .cells true wfW), (1, .cells true wfB), (2, .cells true wfP), (3, .cells true F3), (4, .cells true F4)], 10, none, []⟩, 10⟩ l1 (ii nb), Qst.val (some (.bool (decide (Int.ofNat nb > 500)))) (.bool false), Qst.val (some (.bool (decide (lk > 40)))) (.bool true), Qst.pure [(0, wfW), (1, wfB), (2, wfP)] 4 [] (.bool true)]) := by kernel_rfl
theorem ja_3 (l0 l1 : AV) (to : Nat) (lk th : Int) (oM om oR oL : AObj) (F3 F4 : List AV) : runX Tryd.prog none_ 60 3 (.code (sL (sR (sR (bodyOf Tryd.prog 3)))) ([l0, l1, .agg [i8 to, .int .i64 lk, .int .i64 th], undefA, undefA, .ptr 9 0, .bool false, undefA, undefA, undefA, undefA] ++ List.replicate 13 junkA ++ List.replicate 99 undefA) ⟨⟨[(9, .cells false [i8 to, .int .i64 lk, .int .i64 th]), (8, .cells false []), (7, .cells false []), (6, .cells false []), (5, .cells false []), (0, .cells true wfW), (1, .cells true wfB), (2, .cells true wfP), (3, .cells true F3), (4, .cells true F4)], 10, none, []⟩, 10⟩) [.call 3 3 1 (.agg [.ptr 10 0, .ptr 12 0]) (fun s => (((s.push oM).push om).push oR).push oL)] = some ({ e := .normal, ts := [l0, l1, .agg [i8 to, .int .i64 lk, .int .i64 th], ud, ud, .ptr 9 0, .bool false, .ptr 14 0, ud, ud, ud, jk, jk, jk, jk, jk, jk, jk, jk, jk, jk, jk, jk, jk, ud, l0, .agg [.ptr 10 0, .ptr 12 0], ud, ud, ud, ud, ud, ud, ud, ud, ud, ud, ud, ud, ud, ud, ud, ud, ud, ud, ud, ud, ud, ud, ud, ud, ud, ud, ud, ud, ud, ud, ud, ud, ud, ud, ud, ud, ud, ud, ud, ud, ud, ud, ud, ud, ud, ud, ud, ud, ud, ud, ud, ud, ud, ud, ud, ud, ud, ud, ud, ud, ud, ud, ud, ud, ud, ud, ud, ud, ud, ud, ud, ud, ud, ud, ud, ud, ud, ud, ud, ud, ud, ud, ud, ud, ud, ud, ud, ud, ud, ud, ud, ud, ud, ud, ud, ud], s := ⟨⟨[(14, .cells false [.ptr 10 0, .ptr 12 0]), (13, oL), (12, oR), (11, om), (10, oM), (9, .cells false [i8 to, .int .i64 lk, .int .i64 th]), (8, .cells false []), (7, .cells false []), (6, .cells false []), (5, .cells false []), (0, .cells true wfW), (1, .cells true wfB), (2, .cells true wfP), (3, .cells true F3), (4, .cells true F4)], 15, none, [14]⟩, 15⟩ }, [], [Qst.snd (Task.call 5 [l0] ⟨⟨[(9, .cells false [i8 to, .int .i64 lk, .int .i64 th]), (8, .cells false []), (7, .cells false []), (6, .cells false []), (5, .cells false []), (0, .cells true wfW), (1, .cells true wfB), (2, .cells true wfP), (3, .cells true F3), (4, .cells true F4)], 10, none, []⟩, 10⟩) { e := .ret, ts := [.agg [.ptr 10 0, .ptr 12 0]], s := ⟨⟨[(13, oL), (12, oR), (11, om), (10, oM), (9, .cells false [i8 to, .int .i64 lk, .int .i64 th]), (8, .cells false []), (7, .cells false []), (6, .cells false []), (5, .cells false []), (0, .cells true wfW), (1, .cells true wfB), (2, .cells true wfP), (3, .cells true F3), (4, .cells true F4)], 14, none, []⟩, 14⟩ }]) := by kernel_rfl
theorem ja_4 (l0 l1 : AV) (to : Nat) (lk th : Int) (oM om oR oL : AObj) (F3 F4 : List AV) : runX Tryd.prog none_ 60 3 (.code (sL (sR (sR (sR (bodyOf Tryd.prog 3))))) ([l0, l1, .agg [i8 to, .int .i64 lk, .int .i64 th], undefA, undefA, .ptr 9 0, .bool false, .ptr 14 0, undefA, undefA, undefA] ++ List.replicate 13 junkA ++ [undefA, junkA, .agg [junkA, junkA]] ++ List.replicate 96 undefA) ⟨⟨[(14, .cells false [.ptr 10 0, .ptr 12 0]), (13, oL), (12, oR), (11, om), (10, oM), (9, .cells false [i8 to, .int .i64 lk, .int .i64 th]), (8, .cells false []), (7, .cells false []), (6, .cells false []), (5, .cells false []), (0, .cells true wfW), (1, .cells true wfB), (2, .cells true wfP), (3, .cells true F3), (4, .cells true F4)], 15, none, [14]⟩, 15⟩) [] = some ({ e := .normal, ts := [l0, l1, .agg [i8 to, .int .i64 lk, .int .i64 th], ud, ud, .ptr 9 0, .bool false, .ptr 14 0, .ptr 15 0, ud, ud, jk, jk, jk, jk, jk, jk, jk, jk, jk, jk, jk, jk, jk, ud, jk, .agg [jk, jk], .ptr 9 0, i8 to, .ptr 9 1, .int .i64 lk, .ptr 15 0, ud, ud, ud, ud, ud, ud, ud, ud, ud, ud, ud, ud, ud, ud, ud, ud, ud, ud, ud, ud, ud, ud, ud, ud, ud, ud, ud, ud, ud, ud, ud, ud, ud, ud, ud, ud, ud, ud, ud, ud, ud, ud, ud, ud, ud, ud, ud, ud, ud, ud, ud, ud, ud, ud, ud, ud, ud, ud, ud, ud, ud, ud, ud, ud, ud, ud, ud, ud, ud, ud, ud, ud, ud, ud, ud, ud, ud, ud, ud, ud, ud, ud, ud, ud, ud, ud, ud, ud, ud, ud, ud], s := ⟨⟨[(15, .cells false [.func (Fn.func 19) [.ptr 15 0] [], ii 0, .bool true, i8 to, .int .i64 lk, iw 0, i8 0, i8 0, i8 0, iw 0, .nilPtr]), (14, .cells false [.ptr 10 0, .ptr 12 0]), (13, oL), (12, oR), (11, om), (10, oM), (9, .cells false [i8 to, .int .i64 lk, .int .i64 th]), (8, .cells false []), (7, .cells false []), (6, .cells false []), (5, .cells false []), (0, .cells true wfW), (1, .cells true wfB), (2, .cells true wfP), (3, .cells true F3), (4, .cells true F4)], 16, some 15, [14]⟩, 16⟩ }, [], []) := by kernel_rfl
theorem ja_5 (l0 l1 : AV) (to : Nat) (lk th : Int) (oM om oR oL oX : AObj) (F3 F4 : List AV) : runX Tryd.prog none_ 60 3 (.code (sL (sR (sR (sR (sR (bodyOf Tryd.prog 3)))))) ([l0, l1, .agg [i8 to, .int .i64 lk, .int .i64 th], undefA, undefA, .ptr 9 0, .bool false, .ptr 14 0, .ptr 15 0, undefA, undefA] ++ List.replicate 13 junkA ++ [undefA, junkA, .agg [junkA, junkA]] ++ List.replicate 5 junkA ++ List.replicate 91 undefA) ⟨⟨[(15, oX), (14, .cells false [.ptr 10 0, .ptr 12 0]), (13, oL), (12, oR), (11, om), (10, oM), (9, .cells false [i8 to, .int .i64 lk, .int .i64 th]), (8, .cells false []), (7, .cells false []), (6, .cells false []), (5, .cells false []), (0, .cells true wfW), (1, .cells true wfB), (2, .cells true wfP), (3, .cells true F3), (4, .cells true F4)], 16, some 15, [14]⟩, 16⟩) [] = some ({ e := .normal, ts := [l0, l1, .agg [i8 to, .int .i64 lk, .int .i64 th], ud, ud, .ptr 9 0, .bool false, .ptr 14 0, .ptr 15 0, .ptr 16 0, ud, jk, jk, jk, jk, jk, jk, jk, jk, jk, jk, jk, jk, jk, ud, jk, .agg [jk, jk], jk, jk, jk, jk, jk, .ptr 9 0, i8 to, .ptr 9 1, .int .i64 lk, .ptr 16 0, ud, ud, ud, ud, ud, ud, ud, ud, ud, ud, ud, ud, ud, ud, ud, ud, ud, ud, ud, ud, ud, ud, ud, ud, ud, ud, ud, ud, ud, ud, ud, ud, ud, ud, ud, ud, ud, ud, ud, ud, ud, ud, ud, ud, ud, ud, ud, ud, ud, ud, ud, ud, ud, ud, ud, ud, ud, ud, ud, ud, ud, ud, ud, ud, ud, ud, ud, ud, ud, ud, ud, ud, ud, ud, ud, ud, ud, ud, ud, ud, ud, ud, ud, ud, ud, ud], s := ⟨⟨[(16, .cells false [ii 1, ii 4, .int .i64 (Int.negSucc 0), i8 to, .int .i64 lk, iw 0, i8 0, i8 0, i8 0, iw 0, .nilPtr]), (15, oX), (14, .cells false [.ptr 10 0, .ptr 12 0]), (13, oL), (12, oR), (11, om), (10, oM), (9, .cells false [i8 to, .int .i64 lk, .int .i64 th]), (8, .cells false []), (7, .cells false []), (6, .cells false []), (5, .cells false []), (0, .cells true wfW), (1, .cells true wfB), (2, .cells true wfP), (3, .cells true F3), (4, .cells true F4)], 17, some 15, [14]⟩, 17⟩ }, [], []) := by kernel_rfl
theorem ja_6 (l0 l1 : AV) (to : Nat) (lk th : Int) (oM om oR oL oX oY : AObj) (F3 F4 : List AV) : runX Tryd.prog none_ 60 3 (.code (sL (sL (sR (sR (sR (sR (sR (bodyOf Tryd.prog 3)))))))) ([l0, l1, .agg [i8 to, .int .i64 lk, .int .i64 th], undefA, undefA, .ptr 9 0, .bool false, .ptr 14 0, .ptr 15 0, .ptr 16 0, undefA] ++ List.replicate 13 junkA ++ [undefA, junkA, .agg [junkA, junkA]] ++ List.replicate 10 junkA ++ List.replicate 86 undefA) ⟨⟨[(16, oY), (15, oX), (14, .cells false [.ptr 10 0, .ptr 12 0]), (13, oL), (12, oR), (11, om), (10, oM), (9, .cells false [i8 to, .int .i64 lk, .int .i64 th]), (8, .cells false []), (7, .cells false []), (6, .cells false []), (5, .cells false []), (0, .cells true wfW), (1, .cells true wfB), (2, .cells true wfP), (3, .cells true F3), (4, .cells true F4)], 17, some 15, [14]⟩, 17⟩) [] = some ({ e := .normal, ts := [l0, l1, .agg [i8 to, .int .i64 lk, .int .i64 th], ud, ud, .ptr 9 0, .bool false, .ptr 14 0, .ptr 15 0, .ptr 16 0, ii 0, jk, jk, jk, jk, jk, jk, jk, jk, jk, jk, jk, jk, jk, ud, jk, .agg [jk, jk], jk, jk, jk, jk, jk, jk, jk, jk, jk, jk, ud, ud, ud, ud, ud, ud, ud, ud, ud, ud, ud, ud, ud, ud, ud, ud, ud, ud, ud, ud, ud, ud, ud, ud, ud, ud, ud, ud, ud, ud, ud, ud, ud, ud, ud, ud, ud, ud, ud, ud, ud, ud, ud, ud, ud, ud, ud, ud, ud, ud, ud, ud, ud, ud, ud, ud, ud, ud, ud, ud, ud, ud, ud, ud, ud, ud, ud, ud, ud, ud, ud, ud, ud, ud, ud, ud, ud, ud, ud, ud, ud, ud, ud, ud, ud, ud], s := ⟨⟨[(16, oY), (15, oX), (14, .cells false [.ptr 10 0, .ptr 12 0]), (13, oL), (12, oR), (11, om), (10, oM), (9, .cells false [i8 to, .int .i64 lk, .int .i64 th]), (8, .cells false []), (7, .cells false []), (6, .cells false []), (5, .cells false []), (0, .cells true wfW), (1, .cells true wfB), (2, .cells true wfP), (3, .cells true F3), (4, .cells true F4)], 17, some 15, [14]⟩, 17⟩ }, [], []) := by kernel_rfl
/-! ### the law, whole -/
def sJ (F3 F4 : List AV) : AS := ⟨⟨[(8, .cells false []), (7, .cells false []), (6, .cells false []), (5, .cells false []), (0, .cells true wfW), (1, .cells true wfB), (2, .cells true wfP), (3, .cells true F3), (4, .cells true F4)], 9, none, []⟩, 9⟩
def sJ1 (to : Nat) (lk th : Int) (F3 F4 : List AV) : AS := ⟨⟨[(9, .cells false [.int .u8 (Int.ofNat to), .int .i64 lk, .int .i64 th]), (8, .cells false []), (7, .cells false []), (6, .cells false []), (5, .cells false []), (0, .cells true wfW), (1, .cells true wfB), (2, .cells true wfP), (3, .cells true F3), (4, .cells true F4)], 10, none, []⟩, 10⟩
def sJ6 (to : Nat) (lk th : Int) (oM om oR oL oX oY : AObj) (F3 F4 : List AV) : AS := ⟨⟨[(16, oY), (15, oX), (14, .cells false [.ptr 10 0, .ptr 12 0]), (13, oL), (12, oR), (11, om), (10, oM), (9, .cells false [.int .u8 (Int.ofNat to), .int .i64 lk, .int .i64 th]), (8, .cells false []), (7, .cells false []), (6, .cells false []), (5, .cells false []), (0, .cells true wfW), (1, .cells true wfB), (2, .cells true wfP), (3, .cells true F3), (4, .cells true F4)], 17, some 15, [14]⟩, 17⟩
def piJ (b : Nat) : Nat := if b = 5 then 9 else if b = 6 then 14 else if b = 7 then 10 else if b = 8 then 11 else if b = 9 then 12 else if b = 10 then 13 else if b = 11 then 15 else if b = 12 then 16 else if b = 13 then 5 else if b = 14 then 6 else if b = 15 then 7 else if b = 16 then 8 else b
def br0 : Br := newB 0 0
def σ0 : SS := ⟨1, 4, 0, -1, 0, 0, 0, 0, br0⟩
theorem lo_FC {F3 F4 : List AV} {x : Nat × List AV} (hx : x ∈ FC F3 F4) : x.1 < 5 := by
  simp only [FC, List.mem_cons, List.not_mem_nil, or_false] at hx
  rcases hx with rfl | rfl | rfl | rfl | rfl
  · show 0 < 5; decide
  · show 1 < 5; decide
  · show 2 < 5; decide
  · show 3 < 5; decide
  · show 4 < 5; decide
theorem piJ_lo {b : Nat} (h : b < 5) : piJ b = b := by
  unfold piJ
  rw [if_neg (by omega), if_neg (by omega), if_neg (by omega), if_neg (by omega), if_neg (by omega), if_neg (by omega), if_neg (by omega), if_neg (by omega), if_neg (by omega), if_neg (by omega), if_neg (by omega), if_neg (by omega)]
def q00 : AV × AV × AV := (undefA, undefA, undefA)
theorem j_inv {m : PM} {oL : AObj} (hr : RO m.ms oL) (to : Nat) (lk th : Int) (F3 F4 : List AV) : InvG σ0 m σ0 m to lk th F3 F4 (sJ6 to lk th (.cells false (m.C (.map 11))) (mapO m.ms) (.cells false (m.C (LV m.ms 13))) oL (.cells false (σ0.X to lk (.func (.func 19) [.ptr 15 0] []) 0 0 0 0 .nilPtr)) (.cells false (σ0.Y to lk .nilPtr)) F3 F4) piJ := by
  refine ⟨oL, .func (.func 19) [.ptr 11 0] [], 0, 0, 0, 0, .nilPtr, .nilPtr, .cells false [], .cells false [], .cells false [], .cells false [], .cells false [], .cells false [], .cells false [], ⟨hr, ⟨rfl, rfl⟩, ⟨rfl, rfl⟩, ⟨rfl, rfl⟩, ⟨rfl, .inl ⟨rfl, rfl⟩, fun h => absurd h (by decide)⟩, ⟨⟨rfl, rfl⟩, .inl ⟨rfl, rfl⟩⟩⟩, ⟨fun g hg => ?_, fun x hx => ?_, fun b hb x hx => ?_, ?_, ⟨rfl, rfl, rfl, ?_, ?_, ?_, rfl, rfl, rfl, rfl, rfl, rfl, trivial⟩, ?_⟩⟩
  · rw [gl3] at hg
    exact piJ_lo (by omega)
  · simp only [FC, List.mem_cons, List.not_mem_nil, or_false] at hx
    rcases hx with rfl | rfl | rfl | rfl | rfl <;> exact ⟨true, rfl⟩
  · have h1 := lo_FC hx
    rw [piJ_lo h1]
    have : ∀ b ∈ N12, 5 ≤ piJ b := by decide
    have := this b hb
    omega
  · show ∀ b ∈ N12, ∀ c ∈ N12, piJ b = piJ c → b = c
    decide
  · show _ = some ((mapO m.ms).ren piJ)
    rw [mapO_ren]
    rfl
  · show _ = some (AObj.cells false (m.C ((LV m.ms 10).ren piJ)))
    rw [LV_ren]
    rfl
  · show _ = some (oL.ren piJ)
    rw [hr.free.ren]
    rfl
  · show ∀ k ∈ [16, 15, 14, 13, 12, 11, 10, 9, 8, 7, 6, 5, 0, 1, 2, 3, 4], k < 17
    decide
theorem law_call {F3 F4 : List AV} {l0 l1 : AV} {fs bt : MS} (W0 : RwL 3 l0 F3 fs) (W1 : RwL 4 l1 F4 bt) (to : Nat) (lk th : Int) (hto : to < 256) (hlk : -9223372036854775808 ≤ lk) :
    ∃ e s1, Sound Tryd.prog (.call 3 [l0, l1, .agg [.int .u8 (Int.ofNat to), .int .i64 lk, .int .i64 th]] (canF [] (FC F3 F4) 5 5)) ⟨e, [.bool true], s1⟩ := by
  have res : Tryd.f3.results.toList = [ResultVar.tmp 6] := by kernel_rfl
  suffices H : ∃ ts s1, tget ts 6 = .bool true ∧ Sound Tryd.prog (.code cW ([l0, l1, .agg [.int .u8 (Int.ofNat to), .int .i64 lk, .int .i64 th]] ++ List.replicate 120 undefA) (sJ F3 F4)) ⟨.ret, ts, s1⟩ by
    obtain ⟨ts, s1, ht, h⟩ := H
    refine ⟨.ret, s1, Sound.phantom (.cells false []) (Sound.phantom (.cells false []) (Sound.phantom (.cells false []) (Sound.phantom (.cells false []) (call_whole (fn := Tryd.f3) (vs := [.bool true]) Tryd.func3 (show Tryd.f3.body = some cW by kernel_rfl) h (.inr rfl) ?_))))⟩
    rw [res]
    simp only [resultsA, resultA, ht]
  rw [cW_eq]
  have h0 := runX_sound mixed none_sound (ja_0 l0 l1 to lk th F3 F4) trivial
  by_cases b1 : fs.length ≤ 300
  case neg =>
    exact ⟨_, _, rfl, seq_next h0 (seq_stop (runX_sound mixed none_sound (je_1 l0 l1 fs.length 0 to lk th F3 F4) ⟨W0.len _, by rw [show decide (Int.ofNat fs.length > 300) = true from decide_eq_true (by simp only [Int.ofNat_eq_natCast]; omega)]; rfl, lives_q, trivial⟩) (by simp))⟩
  have v1 : decide (Int.ofNat fs.length > 300) = false := decide_eq_false (by simp only [Int.ofNat_eq_natCast]; omega)
  by_cases b2 : bt.length ≤ 500
  case neg =>
    exact ⟨_, _, rfl, seq_next h0 (seq_stop (runX_sound mixed none_sound (je_2 l0 l1 fs.length bt.length to lk th F3 F4) ⟨W0.len _, by rw [v1]; rfl, W1.len _, by rw [show decide (Int.ofNat bt.length > 500) = true from decide_eq_true (by simp only [Int.ofNat_eq_natCast]; omega)]; rfl, lives_q, trivial⟩) (by simp))⟩
  have v2 : decide (Int.ofNat bt.length > 500) = false := decide_eq_false (by simp only [Int.ofNat_eq_natCast]; omega)
  by_cases b3 : lk ≤ 40
  case neg =>
    exact ⟨_, _, rfl, seq_next h0 (seq_stop (runX_sound mixed none_sound (je_3 l0 l1 fs.length bt.length to lk th F3 F4) ⟨W0.len _, by rw [v1]; rfl, W1.len _, by rw [v2]; rfl, by rw [show decide (lk > 40) = true from decide_eq_true (by omega)]; rfl, lives_q, trivial⟩) (by simp))⟩
  have v3 : decide (lk > 40) = false := decide_eq_false (by omega)
  obtain ⟨oL, hr, hok, hB⟩ := b_place W0 W1.fz b1
  have h1 := Sound.sees (ts2 := [l0, l1, .agg [.int .u8 (Int.ofNat to), .int .i64 lk, .int .i64 th], undefA, undefA, .ptr 9 0, .bool false, undefA, undefA, undefA, undefA] ++ List.replicate 13 junkA ++ List.replicate 99 undefA) (runX_sound mixed none_sound (ja_1 l0 l1 fs.length bt.length to lk th F3 F4) ⟨W0.len _, by rw [v1]; rfl, W1.len _, by rw [v2]; rfl, by rw [v3]; rfl, trivial⟩) (by
    repeat (first | exact rfl | refine ⟨_, _, rfl, ?_, ?_⟩ | exact see_same _ | exact .inl W0.na | exact .inl W1.na | exact .inl ⟨rfl, rfl⟩))
  have h3 := Sound.sees (ts2 := [l0, l1, .agg [.int .u8 (Int.ofNat to), .int .i64 lk, .int .i64 th], undefA, undefA, .ptr 9 0, .bool false, .ptr 14 0, undefA, undefA, undefA] ++ List.replicate 13 junkA ++ [undefA, junkA, .agg [junkA, junkA]] ++ List.replicate 96 undefA) (runX_sound mixed none_sound (ja_3 l0 l1 to lk th (.cells false ((stAll fs PM0).C (.map 11))) (mapO (stAll fs PM0).ms) (.cells false ((stAll fs PM0).C (LV (stAll fs PM0).ms 13))) oL F3 F4) ⟨hB (sJ1 to lk th F3 F4) (fun x hx => by
      simp only [FC, List.mem_cons, List.not_mem_nil, or_false] at hx
      rcases hx with rfl | rfl | rfl | rfl | rfl <;> exact ⟨true, rfl⟩), trivial⟩) (by
    repeat (first | exact rfl | refine ⟨_, _, rfl, ?_, ?_⟩ | exact see_same _ | exact .inl W0.na | exact .inl W1.na | exact .inl ⟨rfl, rfl⟩ | exact .inr ⟨_, _, rfl, rfl, rfl⟩))
  generalize stAll fs PM0 = m at *
  have h4 := Sound.sees (ts2 := [l0, l1, .agg [.int .u8 (Int.ofNat to), .int .i64 lk, .int .i64 th], undefA, undefA, .ptr 9 0, .bool false, .ptr 14 0, .ptr 15 0, undefA, undefA] ++ List.replicate 13 junkA ++ [undefA, junkA, .agg [junkA, junkA]] ++ List.replicate 5 junkA ++ List.replicate 91 undefA) (runX_sound mixed none_sound (ja_4 l0 l1 to lk th (.cells false (m.C (.map 11))) (mapO m.ms) (.cells false (m.C (LV m.ms 13))) oL F3 F4) trivial) (by
    repeat (first | exact rfl | refine ⟨_, _, rfl, ?_, ?_⟩ | exact see_same _ | exact .inl ⟨rfl, rfl⟩))
  have h5 := Sound.sees (ts2 := [l0, l1, .agg [.int .u8 (Int.ofNat to), .int .i64 lk, .int .i64 th], undefA, undefA, .ptr 9 0, .bool false, .ptr 14 0, .ptr 15 0, .ptr 16 0, undefA] ++ List.replicate 13 junkA ++ [undefA, junkA, .agg [junkA, junkA]] ++ List.replicate 10 junkA ++ List.replicate 86 undefA) (runX_sound mixed none_sound (ja_5 l0 l1 to lk th (.cells false (m.C (.map 11))) (mapO m.ms) (.cells false (m.C (LV m.ms 13))) oL (.cells false (σ0.X to lk (.func (.func 19) [.ptr 15 0] []) 0 0 0 0 .nilPtr)) F3 F4) trivial) (by
    repeat (first | exact rfl | refine ⟨_, _, rfl, ?_, ?_⟩ | exact see_same _ | exact .inl ⟨rfl, rfl⟩))
  have h6 := Sound.sees (ts2 := rens piJ (T0 l0 l1 to lk th 0 q00)) (runX_sound mixed none_sound (ja_6 l0 l1 to lk th (.cells false (m.C (.map 11))) (mapO m.ms) (.cells false (m.C (LV m.ms 13))) oL (.cells false (σ0.X to lk (.func (.func 19) [.ptr 15 0] []) 0 0 0 0 .nilPtr)) (.cells false (σ0.Y to lk .nilPtr)) F3 F4) trivial) (by
    have e0 : l0.ren piJ = l0 := W0.nm.ren rfl rfl
    have e1 : l1.ren piJ = l1 := W1.nm.ren rfl rfl
    show seesT _ _ (l0.ren piJ :: l1.ren piJ :: rens piJ ((T0 l0 l1 to lk th 0 q00).drop 2)) _
    rw [e0, e1]
    repeat (first | exact rfl | refine ⟨_, _, rfl, ?_, ?_⟩ | exact see_same _ | exact .inl ⟨rfl, rfl⟩))
  have hok0 : σ0.Ok to lk := ⟨⟨by decide, by decide⟩, rfl, by decide, by decide, by decide, by decide, by decide, hto, fun h => absurd h (by decide)⟩
  obtain ⟨σ', m', i', s', π', q', e0, hq', hL, hI'⟩ := law_loop W0 W1 hlk b3 500 0 300 σ0 m _ piJ q00 rfl ⟨rfl, rfl, rfl⟩ (by omega) (fun _ => ⟨hok0, by decide⟩) hok (by omega) (j_inv hr to lk th F3 F4)
  obtain ⟨oL', nxt, xa, xb, xc, xn, bpx, bp, o13, o14, o15, o16, d1, d2, d3, F, A⟩ := hI'
  obtain ⟨s2, π2, h7⟩ := at_fin (i := i') (q := q') F W0.fz W1.fz A W0.nm W1.nm hq' e0 lives_q
  refine ⟨_, _, ?_, seq_next h0 (seq_next h1 (seq_next h3 (seq_next h4 (seq_next h5 (seq_next (seq_next h6 (block_exit hL rfl)) h7)))))⟩
  show ((rens π2 (TF l0 l1 to lk th i' q'))[6]?).getD undefA = _
  rw [TF_slot]
  rfl
/-! ### the law, for all arguments -/
theorem tSts : Tryd.prog.underlying 22 = some (.slice 49) := by kernel_rfl
theorem law_place {F3 F4 : List AV} {l0 l1 : AV} {fs bt : MS} (W0 : RwL 3 l0 F3 fs) (W1 : RwL 4 l1 F4 bt) (to : Nat) (lk th : Int) (hto : to < 256) (hlk : -9223372036854775808 ≤ lk) (π : Nat → Nat) (s : AS) (hπ : ∀ g, g < 3 → π g = g) (hF : ∀ x ∈ FC F3 F4, ∃ ro, s.get (π x.1) = some (.cells ro x.2)) :
    ∃ e s1, Sound Tryd.prog (.call 3 [l0.ren π, l1.ren π, .agg [.int .u8 (Int.ofNat to), .int .i64 lk, .int .i64 th]] s) ⟨e, [.bool true], s1⟩ := by
  obtain ⟨e, s1, h⟩ := law_call W0 W1 to lk th hto hlk
  refine ⟨_, _, Sound.putFG (bs0 := []) (Fz := FC F3 F4) h π (fun g hg => ⟨by rw [gl3] at hg; omega, hπ g (by rw [gl3] at hg; omega)⟩) [] s (fun x hx => ⟨lo_FC hx, by simp, ?_, hF x hx, fun b hb => by cases hb⟩) trivial (fun _ hb => by cases hb) List.nodup_nil List.nodup_nil (fun b hb => by cases hb) ?_ rfl⟩
  · simp only [FC, List.mem_cons, List.not_mem_nil, or_false] at hx
    rcases hx with rfl | rfl | rfl | rfl | rfl
    · rfl
    · rfl
    · rfl
    · exact W0.fz
    · exact W1.fz
  · show (l0.names _ && (l1.names _ && true)) = true
    rw [W0.nm.nm rfl rfl, W1.nm.nm rfl rfl]
    rfl
theorem rw_nil (b : Nat) : RwL b .nilSlice [] [] := ⟨rfl, ⟨rfl, rfl⟩, fun s => by simp only [lenA, tSts]; rfl, fun i hi => absurd hi (Nat.not_lt_zero i), ⟨[], rfl⟩, fun x hx => by cases hx⟩
theorem rw_sl {b : Nat} (hb : b = 3 ∨ b = 4) (L : MS) (hL : ∀ x ∈ L, 0 ≤ x.1.1 ∧ x.2 < 18446744073709551616) (len c : Nat) (h : len ≤ L.length) : RwL b (.slice b 0 len c) (rowsOf wc L) (L.take len) := by
  have hlen : (L.take len).length = len := by simp; omega
  refine ⟨?_, ?_, fun s => ?_, fun i hi => ?_, ⟨L.drop len, by rw [List.take_append_drop]⟩, fun x hx => hL x (List.mem_of_mem_take hx)⟩
  · rcases hb with rfl | rfl <;> rfl
  · exact ⟨rfl, rfl⟩
  · rw [hlen]
    simp only [lenA, tSts]
    rfl
  · rw [hlen] at hi
    rw [idx_slice (o := 0) tSts sSt hi, Nat.zero_add]
def stK : List Kc := [.int .u8, .int .i64, .int .i64, .int .u64]
theorem rows_st : ∀ (rows : List (List SD)), Tyss rows stK → ∃ L : MS, (∀ s : AS, absRows rows s = (rowsOf wc L, s)) ∧ L.length = rows.length ∧ ∀ x ∈ L, 0 ≤ x.1.1 ∧ x.2 < 18446744073709551616
  | [], _ => ⟨[], fun _ => rfl, rfl, fun x hx => by cases hx⟩
  | r :: rs, h => by
    obtain ⟨h1, h2⟩ := h
    obtain ⟨L, e1, e2, e3⟩ := rows_st rs h2
    match r, h1 with
    | [x0, x1, x2, x3], ⟨k0, k1, k2, k3, _⟩ =>
      cases x0 <;> simp only [Ty] at k0
      cases x1 <;> simp only [Ty] at k1
      cases x2 <;> simp only [Ty] at k2
      cases x3 <;> simp only [Ty] at k3
      obtain ⟨rfl, w0⟩ := k0
      obtain ⟨rfl, w1⟩ := k1
      obtain ⟨rfl, w2⟩ := k2
      obtain ⟨rfl, w3⟩ := k3
      rename_i n0 n1 n2 n3
      have c0 := bounds_u8 w0
      have c3 := bounds_u64 w3
      have e3n : Int.ofNat n3.toNat = n3 := by simp only [Int.ofNat_eq_natCast]; omega
      refine ⟨((n0, n1, n2), n3.toNat) :: L, fun s => ?_, by simp [e2], fun x hx => ?_⟩
      · show ((absCs [.i .u8 n0, .i .i64 n1, .i .i64 n2, .i .u64 n3] s).1 ++ (absRows rs (absCs [.i .u8 n0, .i .i64 n1, .i .i64 n2, .i .u64 n3] s).2).1, (absRows rs (absCs [.i .u8 n0, .i .i64 n1, .i .i64 n2, .i .u64 n3] s).2).2) = _
        have e4 : absCs [.i .u8 n0, .i .i64 n1, .i .i64 n2, .i .u64 n3] s = (wc ((n0, n1, n2), n3.toNat), s) := by
          simp only [absCs, absC, wc, ak, e3n]
          rfl
        rw [e4]
        simp only [e1]
        rfl
      · rcases List.mem_cons.1 hx with rfl | hx
        · exact ⟨c0.1, by show n3.toNat < _; omega⟩
        · exact e3 x hx
def GL : List (Nat × List AV) := [(1, wfB), (2, wfP), (0, wfW)]
def jpks : List Pk := [⟨false, [.sl stK]⟩, ⟨false, [.sl stK]⟩, ⟨true, [.int .u8, .int .i64, .int .i64]⟩]
theorem st_eq : startS Tryd.prog GL = ⟨⟨[(1, .cells true wfB), (2, .cells true wfP), (0, .cells true wfW)], 3, none, []⟩, 3⟩ := by
  show (⟨⟨_, _, none, []⟩, Tryd.prog.globals.size⟩ : AS) = _
  rw [gl3]
  rfl
def sw34 (b : Nat) : Nat := if b = 3 then 4 else if b = 4 then 3 else b
theorem j_main (xs : List (Bool × List SD)) (h : Fits xs jpks) : ∃ e s1, Sound Tryd.prog (.call 3 (absArgs xs (startS Tryd.prog GL)).1 (absArgs xs (startS Tryd.prog GL)).2) ⟨e, [.bool true], s1⟩ := by
  match xs, h with
  | [(b1, [u1]), (b2, [u2]), (b3, [u3, u4, u5])], ⟨g1, ⟨k1, _⟩, g2, ⟨k2, _⟩, g3, ⟨k3, k4, k5, _⟩, _⟩ =>
    simp only at g1 g2 g3 k1 k2 k3 k4 k5
    subst g1 g2 g3
    rw [st_eq]
    cases u3 <;> simp only [Ty] at k3
    cases u4 <;> simp only [Ty] at k4
    cases u5 <;> simp only [Ty] at k5
    obtain ⟨rfl, w3⟩ := k3
    obtain ⟨rfl, w4⟩ := k4
    obtain ⟨rfl, w5⟩ := k5
    rename_i m3 lk th
    have b3 := bounds_u8 w3
    have b4 := bounds_i64 w4
    obtain ⟨to, rfl⟩ : ∃ t : Nat, m3 = Int.ofNat t := ⟨m3.toNat, by simp only [Int.ofNat_eq_natCast]; omega⟩
    have hto : to < 256 := by
      have := b3.2
      simp only [Int.ofNat_eq_natCast] at this
      omega
    have hlk : -9223372036854775808 ≤ lk := by omega
    cases u1 with
    | nil =>
      cases u2 with
      | nil =>
        obtain ⟨e, s1, hs⟩ := law_place (rw_nil 3) (rw_nil 4) to lk th hto hlk (fun b => b) ⟨⟨[(4, .cells true []), (3, .cells true []), (1, .cells true wfB), (2, .cells true wfP), (0, .cells true wfW)], 5, none, []⟩, 5⟩ (fun _ _ => rfl) (fun x hx => by
          simp only [FC, List.mem_cons, List.not_mem_nil, or_false] at hx
          rcases hx with rfl | rfl | rfl | rfl | rfl <;> exact ⟨true, rfl⟩)
        exact ⟨e, s1, Sound.phantom (.cells true []) (Sound.phantom (.cells true []) hs)⟩
      | sl rows len =>
        simp only [Ty] at k2
        obtain ⟨l1, l2, l3⟩ := k2
        obtain ⟨B, e1, e2, e3⟩ := rows_st rows l3
        have e5 : absArgs [(false, [.nil]), (false, [.sl rows len]), (true, [.i .u8 (Int.ofNat to), .i .i64 lk, .i .i64 th])] ⟨⟨[(1, .cells true wfB), (2, .cells true wfP), (0, .cells true wfW)], 3, none, []⟩, 3⟩ = ([.nilSlice, .slice 3 0 len rows.length, .agg [.int .u8 (Int.ofNat to), .int .i64 lk, .int .i64 th]], ⟨⟨[(3, .cells true (rowsOf wc B)), (1, .cells true wfB), (2, .cells true wfP), (0, .cells true wfW)], 4, none, []⟩, 4⟩) := by
          simp only [absArgs, absCs, absC, e1]
          rfl
        obtain ⟨e, s1, hs⟩ := law_place (rw_nil 3) (rw_sl (.inr rfl) B e3 len rows.length (by omega)) to lk th hto hlk sw34 ⟨⟨[(4, .cells true []), (3, .cells true (rowsOf wc B)), (1, .cells true wfB), (2, .cells true wfP), (0, .cells true wfW)], 5, none, []⟩, 5⟩ (fun g hg => by
            unfold sw34
            rw [if_neg (by omega), if_neg (by omega)]) (fun x hx => by
          simp only [FC, List.mem_cons, List.not_mem_nil, or_false] at hx
          rcases hx with rfl | rfl | rfl | rfl | rfl <;> exact ⟨true, rfl⟩)
        rw [e5]
        exact ⟨e, s1, Sound.phantom (.cells true []) hs⟩
      | _ => simp only [Ty] at k2
    | sl rows len =>
      simp only [Ty] at k1
      obtain ⟨l1, l2, l3⟩ := k1
      obtain ⟨L, e1, e2, e3⟩ := rows_st rows l3
      cases u2 with
      | nil =>
        have e5 : absArgs [(false, [.sl rows len]), (false, [.nil]), (true, [.i .u8 (Int.ofNat to), .i .i64 lk, .i .i64 th])] ⟨⟨[(1, .cells true wfB), (2, .cells true wfP), (0, .cells true wfW)], 3, none, []⟩, 3⟩ = ([.slice 3 0 len rows.length, .nilSlice, .agg [.int .u8 (Int.ofNat to), .int .i64 lk, .int .i64 th]], ⟨⟨[(3, .cells true (rowsOf wc L)), (1, .cells true wfB), (2, .cells true wfP), (0, .cells true wfW)], 4, none, []⟩, 4⟩) := by
          simp only [absArgs, absCs, absC, e1]
          rfl
        obtain ⟨e, s1, hs⟩ := law_place (rw_sl (.inl rfl) L e3 len rows.length (by omega)) (rw_nil 4) to lk th hto hlk (fun b => b) ⟨⟨[(4, .cells true []), (3, .cells true (rowsOf wc L)), (1, .cells true wfB), (2, .cells true wfP), (0, .cells true wfW)], 5, none, []⟩, 5⟩ (fun _ _ => rfl) (fun x hx => by
          simp only [FC, List.mem_cons, List.not_mem_nil, or_false] at hx
          rcases hx with rfl | rfl | rfl | rfl | rfl <;> exact ⟨true, rfl⟩)
        rw [e5]
        exact ⟨e, s1, Sound.phantom (.cells true []) hs⟩
      | sl rows2 len2 =>
        simp only [Ty] at k2
        obtain ⟨q1, q2, q3⟩ := k2
        obtain ⟨B, f1, f2, f3⟩ := rows_st rows2 q3
        have e5 : absArgs [(false, [.sl rows len]), (false, [.sl rows2 len2]), (true, [.i .u8 (Int.ofNat to), .i .i64 lk, .i .i64 th])] ⟨⟨[(1, .cells true wfB), (2, .cells true wfP), (0, .cells true wfW)], 3, none, []⟩, 3⟩ = ([.slice 3 0 len rows.length, .slice 4 0 len2 rows2.length, .agg [.int .u8 (Int.ofNat to), .int .i64 lk, .int .i64 th]], ⟨⟨[(4, .cells true (rowsOf wc B)), (3, .cells true (rowsOf wc L)), (1, .cells true wfB), (2, .cells true wfP), (0, .cells true wfW)], 5, none, []⟩, 5⟩) := by
          simp only [absArgs, absCs, absC, e1, f1]
          rfl
        rw [e5]
        exact law_place (rw_sl (.inl rfl) L e3 len rows.length (by omega)) (rw_sl (.inr rfl) B f3 len2 rows2.length (by omega)) to lk th hto hlk (fun b => b) _ (fun _ _ => rfl) (fun x hx => by
          simp only [FC, List.mem_cons, List.not_mem_nil, or_false] at hx
          rcases hx with rfl | rfl | rfl | rfl | rfl <;> exact ⟨true, rfl⟩)
      | _ => simp only [Ty] at k2
    | _ => simp only [Ty] at k1
end Go.Proofs.YtmonmmpegmdflaaDoor.ctlsPlay
