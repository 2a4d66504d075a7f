/- The law SpecsDo returns true for every input, and leaves its argument as it was. Conditions: those that each theorem names, and no others. -/
import Derived.Test.YthooafgfpnedhaaDoing8
import Derived.Test.YthooafgfpnedhaaRows
import Derived.LaidByText
namespace Go.Proofs.Ythooafgfpnedhaa.specsDo.sd
open Go Go.Mini
theorem do_ok (lA x33 mS mT q c1 c2 c3 dS dM dQ d1 d2 d3 a11 a12 a13 a14 a15 a16 a17 a18 : AV) (n i g op a : Nat) (k v y : Int) (oS oT oQ eS eM eQ x1 x2 x3 xN y1 y2 y3 xA xB p1 p2 p3 p4 p5 p6 p7 p8 q5 q6 q7 q8 : AObj) (row : List AV) : runX Try.prog none_ 80 8 (.code (loopAt Try.prog 8 0) (T8 lA x33 i) ⟨⟨[(8, .cells false [dS, dM, dQ]), (7, eQ), (6, eM), (5, eS), (4, .cells false [mS, mT, q]), (3, oQ), (2, oT), (1, oS), (0, .cells true row)], 9, none, []⟩, 9⟩) [.val 8 6 2 (iN (n)), .val 8 6 3 (.bool true), .val 8 8 2 (.ptr 0 g), .val 8 8 3 (.agg [iB op, (iW k), (iW v)]), .call 8 9 7 (.tuple [iB a, (iW y)]) (fun s => (uni s [c1, c2, c3] x1 x2 x3).push xN), .val 8 10 2 (iN (op)), .call 8 10 7 (.tuple [iN a, (iW y)]) (fun s => ((uniD s [d1, d2, d3] y1 y2 y3).push xA).push xB), .val 8 11 1 (iN (a)), .val 8 11 3 (.bool false), .val 8 11 7 (.bool false), .call 8 13 2 (.tuple [a11, a12]) (fun s => (s.push p1).push p2), .call 8 14 2 (.tuple [a13, a14]) (fun s => (s.push p3).push p4), .call 8 15 1 (.tuple [a15, a16]) (fun s => (s.push p5).push p6), .call 8 16 1 a17 (fun s => s.push p7), .call 8 17 1 a18 (fun s => s.push p8), .call 8 18 2 (.bool true) id, .call 8 18 8 (.bool true) id, .call 8 18 14 (.bool true) id, .call 8 18 20 (.bool true) id, .call 8 20 1 uD (fun s => s.set 19 q7), .call 8 21 1 uD (fun s => s.set 20 q8), .call 8 22 1 uD (fun s => s.set 17 q5), .call 8 23 1 uD (fun s => s.set 18 q6), .val 8 7 1 (iN (i + 1))] = some ({ e := .normal, ts := [lA, jq, jq, .ptr 4 0, .ptr 8 0, iN (i + 1), .ptr 9 0, iB a, iW y, iN a, iW y, a11, a12, a13, a14, a15, a16, a17, a18, jq, jq, jq, jq, jq, iN i, lA, iN n, .bool true, iN i, iN (i + 1), lA, iN i, .ptr 0 g, .agg [iB op, iW k, iW v], .tuple [iB a, iW y], .ptr 4 0, .ptr 9 0, iB op, .ptr 9 1, iW k, .ptr 9 2, iW v, .tuple [iB a, iW y], iB a, iW y, .tuple [iN a, iW y], .ptr 9 0, iB op, iN op, .ptr 9 1, iW k, .ptr 9 2, iW v, .tuple [iN a, iW y], iN a, iW y, iB a, iN a, iN a, .bool false, .bool false, iW y, iW y, .bool false, .bool false, .tuple [a11, a12], .ptr 8 0, d1, .tuple [a11, a12], a11, a12, .tuple [a13, a14], .ptr 8 1, d2, .tuple [a13, a14], a13, a14, .tuple [a15, a16], .ptr 4 0, .tuple [a15, a16], a15, a16, .ptr 4 0, a17, .ptr 4 0, a18, a17, a11, .bool true, .bool false, .bool false, a18, .ptr 8 2, d3, .bool true, .bool false, .bool false, .bool false, a15, a13, .bool true, .bool false, .bool false, .bool false, a16, a14, .bool true, .bool false, .bool false, a17, uD, a18, uD, a15, uD, a16, uD, jq], s := ⟨⟨[(20, q8), (19, q7), (18, q6), (17, q5), (16, p4), (15, p3), (14, p2), (13, p1), (12, xB), (11, xA), (10, xN), (9, .cells false [iB op, iW k, iW v]), (8, .cells false [d1, d2, d3]), (7, y3), (6, y2), (5, y1), (4, .cells false [c1, c2, c3]), (3, x3), (2, x2), (1, x1), (0, .cells true row)], 21, none, [18, 17, 20, 19, 7, 6, 5, 8, 3, 2, 1, 4, 9]⟩, 21⟩ }, [], [Qst.ln 47 ⟨⟨[(8, .cells false [dS, dM, dQ]), (7, eQ), (6, eM), (5, eS), (4, .cells false [mS, mT, q]), (3, oQ), (2, oT), (1, oS), (0, .cells true row)], 9, none, []⟩, 9⟩ lA (iN n), Qst.val (some (.bool (decide (Int.ofNat i < Int.ofNat n)))) (.bool true), Qst.idx 47 lA (iN i) (.ptr 0 g), Qst.ld 24 ⟨⟨[(8, .cells false [dS, dM, dQ]), (7, eQ), (6, eM), (5, eS), (4, .cells false [mS, mT, q]), (3, oQ), (2, oT), (1, oS), (0, .cells true row)], 9, none, []⟩, 9⟩ (.ptr 0 g) (.agg [iB op, iW k, iW v]), Qst.snd (Task.call 9 [.ptr 4 0, iB op, iW k, iW v] ⟨⟨[(9, .cells false [iB op, iW k, iW v]), (8, .cells false [dS, dM, dQ]), (7, eQ), (6, eM), (5, eS), (4, .cells false [mS, mT, q]), (3, oQ), (2, oT), (1, oS), (0, .cells true row)], 10, none, [9]⟩, 10⟩) { e := .ret, ts := [.tuple [iB a, iW y]], s := ⟨⟨[(10, xN), (9, .cells false [iB op, iW k, iW v]), (8, .cells false [dS, dM, dQ]), (7, eQ), (6, eM), (5, eS), (4, .cells false [c1, c2, c3]), (3, x3), (2, x2), (1, x1), (0, .cells true row)], 11, none, [3, 2, 1, 4, 9]⟩, 11⟩ }, Qst.val (some (.int .i64 (IntKind.i64.wrap (Int.ofNat op)))) (iN op), Qst.snd (Task.call 14 [.ptr 8 0, iN op, iW k, iW v] ⟨⟨[(10, xN), (9, .cells false [iB op, iW k, iW v]), (8, .cells false [dS, dM, dQ]), (7, eQ), (6, eM), (5, eS), (4, .cells false [c1, c2, c3]), (3, x3), (2, x2), (1, x1), (0, .cells true row)], 11, none, [3, 2, 1, 4, 9]⟩, 11⟩) { e := .ret, ts := [.tuple [iN a, iW y]], s := ⟨⟨[(12, xB), (11, xA), (10, xN), (9, .cells false [iB op, iW k, iW v]), (8, .cells false [d1, d2, d3]), (7, y3), (6, y2), (5, y1), (4, .cells false [c1, c2, c3]), (3, x3), (2, x2), (1, x1), (0, .cells true row)], 13, none, [7, 6, 5, 8, 3, 2, 1, 4, 9]⟩, 13⟩ }, Qst.val (some (.int .i64 (IntKind.i64.wrap (Int.ofNat a)))) (iN a), Qst.val (some (.bool (Int.ofNat a != Int.ofNat a))) (.bool false), Qst.val (some (.bool (y != y))) (.bool false), Qst.snd (Task.call 15 [d1] ⟨⟨[(12, xB), (11, xA), (10, xN), (9, .cells false [iB op, iW k, iW v]), (8, .cells false [d1, d2, d3]), (7, y3), (6, y2), (5, y1), (4, .cells false [c1, c2, c3]), (3, x3), (2, x2), (1, x1), (0, .cells true row)], 13, none, [7, 6, 5, 8, 3, 2, 1, 4, 9]⟩, 13⟩) { e := .ret, ts := [.tuple [a11, a12]], s := ⟨⟨[(14, p2), (13, p1), (12, xB), (11, xA), (10, xN), (9, .cells false [iB op, iW k, iW v]), (8, .cells false [d1, d2, d3]), (7, y3), (6, y2), (5, y1), (4, .cells false [c1, c2, c3]), (3, x3), (2, x2), (1, x1), (0, .cells true row)], 15, none, [7, 6, 5, 8, 3, 2, 1, 4, 9]⟩, 15⟩ }, Qst.snd (Task.call 15 [d2] ⟨⟨[(14, p2), (13, p1), (12, xB), (11, xA), (10, xN), (9, .cells false [iB op, iW k, iW v]), (8, .cells false [d1, d2, d3]), (7, y3), (6, y2), (5, y1), (4, .cells false [c1, c2, c3]), (3, x3), (2, x2), (1, x1), (0, .cells true row)], 15, none, [7, 6, 5, 8, 3, 2, 1, 4, 9]⟩, 15⟩) { e := .ret, ts := [.tuple [a13, a14]], s := ⟨⟨[(16, p4), (15, p3), (14, p2), (13, p1), (12, xB), (11, xA), (10, xN), (9, .cells false [iB op, iW k, iW v]), (8, .cells false [d1, d2, d3]), (7, y3), (6, y2), (5, y1), (4, .cells false [c1, c2, c3]), (3, x3), (2, x2), (1, x1), (0, .cells true row)], 17, none, [7, 6, 5, 8, 3, 2, 1, 4, 9]⟩, 17⟩ }, Qst.snd (Task.call 10 [.ptr 4 0] ⟨⟨[(16, p4), (15, p3), (14, p2), (13, p1), (12, xB), (11, xA), (10, xN), (9, .cells false [iB op, iW k, iW v]), (8, .cells false [d1, d2, d3]), (7, y3), (6, y2), (5, y1), (4, .cells false [c1, c2, c3]), (3, x3), (2, x2), (1, x1), (0, .cells true row)], 17, none, [7, 6, 5, 8, 3, 2, 1, 4, 9]⟩, 17⟩) { e := .ret, ts := [.tuple [a15, a16]], s := ⟨⟨[(18, p6), (17, p5), (16, p4), (15, p3), (14, p2), (13, p1), (12, xB), (11, xA), (10, xN), (9, .cells false [iB op, iW k, iW v]), (8, .cells false [d1, d2, d3]), (7, y3), (6, y2), (5, y1), (4, .cells false [c1, c2, c3]), (3, x3), (2, x2), (1, x1), (0, .cells true row)], 19, none, [7, 6, 5, 8, 3, 2, 1, 4, 9]⟩, 19⟩ }, Qst.snd (Task.call 11 [.ptr 4 0] ⟨⟨[(18, p6), (17, p5), (16, p4), (15, p3), (14, p2), (13, p1), (12, xB), (11, xA), (10, xN), (9, .cells false [iB op, iW k, iW v]), (8, .cells false [d1, d2, d3]), (7, y3), (6, y2), (5, y1), (4, .cells false [c1, c2, c3]), (3, x3), (2, x2), (1, x1), (0, .cells true row)], 19, none, [7, 6, 5, 8, 3, 2, 1, 4, 9]⟩, 19⟩) { e := .ret, ts := [a17], s := ⟨⟨[(19, p7), (18, p6), (17, p5), (16, p4), (15, p3), (14, p2), (13, p1), (12, xB), (11, xA), (10, xN), (9, .cells false [iB op, iW k, iW v]), (8, .cells false [d1, d2, d3]), (7, y3), (6, y2), (5, y1), (4, .cells false [c1, c2, c3]), (3, x3), (2, x2), (1, x1), (0, .cells true row)], 20, none, [7, 6, 5, 8, 3, 2, 1, 4, 9]⟩, 20⟩ }, Qst.snd (Task.call 12 [.ptr 4 0] ⟨⟨[(19, p7), (18, p6), (17, p5), (16, p4), (15, p3), (14, p2), (13, p1), (12, xB), (11, xA), (10, xN), (9, .cells false [iB op, iW k, iW v]), (8, .cells false [d1, d2, d3]), (7, y3), (6, y2), (5, y1), (4, .cells false [c1, c2, c3]), (3, x3), (2, x2), (1, x1), (0, .cells true row)], 20, none, [7, 6, 5, 8, 3, 2, 1, 4, 9]⟩, 20⟩) { e := .ret, ts := [a18], s := ⟨⟨[(20, p8), (19, p7), (18, p6), (17, p5), (16, p4), (15, p3), (14, p2), (13, p1), (12, xB), (11, xA), (10, xN), (9, .cells false [iB op, iW k, iW v]), (8, .cells false [d1, d2, d3]), (7, y3), (6, y2), (5, y1), (4, .cells false [c1, c2, c3]), (3, x3), (2, x2), (1, x1), (0, .cells true row)], 21, none, [7, 6, 5, 8, 3, 2, 1, 4, 9]⟩, 21⟩ }, Qst.snd (Task.call 16 [a17, a11] ⟨⟨[(20, p8), (19, p7), (18, p6), (17, p5), (16, p4), (15, p3), (14, p2), (13, p1), (12, xB), (11, xA), (10, xN), (9, .cells false [iB op, iW k, iW v]), (8, .cells false [d1, d2, d3]), (7, y3), (6, y2), (5, y1), (4, .cells false [c1, c2, c3]), (3, x3), (2, x2), (1, x1), (0, .cells true row)], 21, none, [7, 6, 5, 8, 3, 2, 1, 4, 9]⟩, 21⟩) { e := .ret, ts := [.bool true], s := ⟨⟨[(20, p8), (19, p7), (18, p6), (17, p5), (16, p4), (15, p3), (14, p2), (13, p1), (12, xB), (11, xA), (10, xN), (9, .cells false [iB op, iW k, iW v]), (8, .cells false [d1, d2, d3]), (7, y3), (6, y2), (5, y1), (4, .cells false [c1, c2, c3]), (3, x3), (2, x2), (1, x1), (0, .cells true row)], 21, none, [7, 6, 5, 8, 3, 2, 1, 4, 9]⟩, 21⟩ }, Qst.snd (Task.call 16 [a18, d3] ⟨⟨[(20, p8), (19, p7), (18, p6), (17, p5), (16, p4), (15, p3), (14, p2), (13, p1), (12, xB), (11, xA), (10, xN), (9, .cells false [iB op, iW k, iW v]), (8, .cells false [d1, d2, d3]), (7, y3), (6, y2), (5, y1), (4, .cells false [c1, c2, c3]), (3, x3), (2, x2), (1, x1), (0, .cells true row)], 21, none, [7, 6, 5, 8, 3, 2, 1, 4, 9]⟩, 21⟩) { e := .ret, ts := [.bool true], s := ⟨⟨[(20, p8), (19, p7), (18, p6), (17, p5), (16, p4), (15, p3), (14, p2), (13, p1), (12, xB), (11, xA), (10, xN), (9, .cells false [iB op, iW k, iW v]), (8, .cells false [d1, d2, d3]), (7, y3), (6, y2), (5, y1), (4, .cells false [c1, c2, c3]), (3, x3), (2, x2), (1, x1), (0, .cells true row)], 21, none, [7, 6, 5, 8, 3, 2, 1, 4, 9]⟩, 21⟩ }, Qst.snd (Task.call 16 [a15, a13] ⟨⟨[(20, p8), (19, p7), (18, p6), (17, p5), (16, p4), (15, p3), (14, p2), (13, p1), (12, xB), (11, xA), (10, xN), (9, .cells false [iB op, iW k, iW v]), (8, .cells false [d1, d2, d3]), (7, y3), (6, y2), (5, y1), (4, .cells false [c1, c2, c3]), (3, x3), (2, x2), (1, x1), (0, .cells true row)], 21, none, [7, 6, 5, 8, 3, 2, 1, 4, 9]⟩, 21⟩) { e := .ret, ts := [.bool true], s := ⟨⟨[(20, p8), (19, p7), (18, p6), (17, p5), (16, p4), (15, p3), (14, p2), (13, p1), (12, xB), (11, xA), (10, xN), (9, .cells false [iB op, iW k, iW v]), (8, .cells false [d1, d2, d3]), (7, y3), (6, y2), (5, y1), (4, .cells false [c1, c2, c3]), (3, x3), (2, x2), (1, x1), (0, .cells true row)], 21, none, [7, 6, 5, 8, 3, 2, 1, 4, 9]⟩, 21⟩ }, Qst.snd (Task.call 16 [a16, a14] ⟨⟨[(20, p8), (19, p7), (18, p6), (17, p5), (16, p4), (15, p3), (14, p2), (13, p1), (12, xB), (11, xA), (10, xN), (9, .cells false [iB op, iW k, iW v]), (8, .cells false [d1, d2, d3]), (7, y3), (6, y2), (5, y1), (4, .cells false [c1, c2, c3]), (3, x3), (2, x2), (1, x1), (0, .cells true row)], 21, none, [7, 6, 5, 8, 3, 2, 1, 4, 9]⟩, 21⟩) { e := .ret, ts := [.bool true], s := ⟨⟨[(20, p8), (19, p7), (18, p6), (17, p5), (16, p4), (15, p3), (14, p2), (13, p1), (12, xB), (11, xA), (10, xN), (9, .cells false [iB op, iW k, iW v]), (8, .cells false [d1, d2, d3]), (7, y3), (6, y2), (5, y1), (4, .cells false [c1, c2, c3]), (3, x3), (2, x2), (1, x1), (0, .cells true row)], 21, none, [7, 6, 5, 8, 3, 2, 1, 4, 9]⟩, 21⟩ }, Qst.snd (Task.call 25 [a17] ⟨⟨[(20, p8), (19, p7), (18, p6), (17, p5), (16, p4), (15, p3), (14, p2), (13, p1), (12, xB), (11, xA), (10, xN), (9, .cells false [iB op, iW k, iW v]), (8, .cells false [d1, d2, d3]), (7, y3), (6, y2), (5, y1), (4, .cells false [c1, c2, c3]), (3, x3), (2, x2), (1, x1), (0, .cells true row)], 21, none, [7, 6, 5, 8, 3, 2, 1, 4, 9]⟩, 21⟩) { e := .ret, ts := [uD], s := ⟨⟨[(20, p8), (19, q7), (18, p6), (17, p5), (16, p4), (15, p3), (14, p2), (13, p1), (12, xB), (11, xA), (10, xN), (9, .cells false [iB op, iW k, iW v]), (8, .cells false [d1, d2, d3]), (7, y3), (6, y2), (5, y1), (4, .cells false [c1, c2, c3]), (3, x3), (2, x2), (1, x1), (0, .cells true row)], 21, none, [19, 7, 6, 5, 8, 3, 2, 1, 4, 9]⟩, 21⟩ }, Qst.snd (Task.call 25 [a18] ⟨⟨[(20, p8), (19, q7), (18, p6), (17, p5), (16, p4), (15, p3), (14, p2), (13, p1), (12, xB), (11, xA), (10, xN), (9, .cells false [iB op, iW k, iW v]), (8, .cells false [d1, d2, d3]), (7, y3), (6, y2), (5, y1), (4, .cells false [c1, c2, c3]), (3, x3), (2, x2), (1, x1), (0, .cells true row)], 21, none, [19, 7, 6, 5, 8, 3, 2, 1, 4, 9]⟩, 21⟩) { e := .ret, ts := [uD], s := ⟨⟨[(20, q8), (19, q7), (18, p6), (17, p5), (16, p4), (15, p3), (14, p2), (13, p1), (12, xB), (11, xA), (10, xN), (9, .cells false [iB op, iW k, iW v]), (8, .cells false [d1, d2, d3]), (7, y3), (6, y2), (5, y1), (4, .cells false [c1, c2, c3]), (3, x3), (2, x2), (1, x1), (0, .cells true row)], 21, none, [20, 19, 7, 6, 5, 8, 3, 2, 1, 4, 9]⟩, 21⟩ }, Qst.snd (Task.call 25 [a15] ⟨⟨[(20, q8), (19, q7), (18, p6), (17, p5), (16, p4), (15, p3), (14, p2), (13, p1), (12, xB), (11, xA), (10, xN), (9, .cells false [iB op, iW k, iW v]), (8, .cells false [d1, d2, d3]), (7, y3), (6, y2), (5, y1), (4, .cells false [c1, c2, c3]), (3, x3), (2, x2), (1, x1), (0, .cells true row)], 21, none, [20, 19, 7, 6, 5, 8, 3, 2, 1, 4, 9]⟩, 21⟩) { e := .ret, ts := [uD], s := ⟨⟨[(20, q8), (19, q7), (18, p6), (17, q5), (16, p4), (15, p3), (14, p2), (13, p1), (12, xB), (11, xA), (10, xN), (9, .cells false [iB op, iW k, iW v]), (8, .cells false [d1, d2, d3]), (7, y3), (6, y2), (5, y1), (4, .cells false [c1, c2, c3]), (3, x3), (2, x2), (1, x1), (0, .cells true row)], 21, none, [17, 20, 19, 7, 6, 5, 8, 3, 2, 1, 4, 9]⟩, 21⟩ }, Qst.snd (Task.call 25 [a16] ⟨⟨[(20, q8), (19, q7), (18, p6), (17, q5), (16, p4), (15, p3), (14, p2), (13, p1), (12, xB), (11, xA), (10, xN), (9, .cells false [iB op, iW k, iW v]), (8, .cells false [d1, d2, d3]), (7, y3), (6, y2), (5, y1), (4, .cells false [c1, c2, c3]), (3, x3), (2, x2), (1, x1), (0, .cells true row)], 21, none, [17, 20, 19, 7, 6, 5, 8, 3, 2, 1, 4, 9]⟩, 21⟩) { e := .ret, ts := [uD], s := ⟨⟨[(20, q8), (19, q7), (18, q6), (17, q5), (16, p4), (15, p3), (14, p2), (13, p1), (12, xB), (11, xA), (10, xN), (9, .cells false [iB op, iW k, iW v]), (8, .cells false [d1, d2, d3]), (7, y3), (6, y2), (5, y1), (4, .cells false [c1, c2, c3]), (3, x3), (2, x2), (1, x1), (0, .cells true row)], 21, none, [18, 17, 20, 19, 7, 6, 5, 8, 3, 2, 1, 4, 9]⟩, 21⟩ }, Qst.val (some (.int .i64 (IntKind.i64.wrap (Int.ofNat (i + 1))))) (iN (i + 1))]) := by kernel_rfl
theorem do_end (lA x33 mS mT q _ _ _ dS dM dQ _ _ _ _ _ _ _ _ _ _ _ : AV) (n i _ _ _ : Nat) (_ _ _ : Int) (oS oT oQ eS eM eQ _ _ _ _ _ _ _ _ _ _ _ _ _ _ _ _ _ _ _ _ _ : AObj) (row : List AV) : runX Try.prog none_ 80 8 (.code (loopAt Try.prog 8 0) (T8 lA x33 i) ⟨⟨[(8, .cells false [dS, dM, dQ]), (7, eQ), (6, eM), (5, eS), (4, .cells false [mS, mT, q]), (3, oQ), (2, oT), (1, oS), (0, .cells true row)], 9, none, []⟩, 9⟩) [.val 8 6 2 (iN (n)), .val 8 6 3 (.bool false)] = some ({ e := .exit 0, ts := [lA, jq, jq, .ptr 4 0, .ptr 8 0, iN i, jq, jq, jq, jq, jq, jq, jq, jq, jq, jq, jq, jq, jq, jq, jq, jq, jq, jq, iN i, lA, iN n, .bool false, jq, jq, jq, jq, jq, x33, jq, jq, jq, jq, jq, jq, jq, jq, jq, jq, jq, jq, jq, jq, jq, jq, jq, jq, jq, jq, jq, jq, jq, jq, jq, jq, jq, jq, jq, jq, jq, jq, jq, jq, jq, jq, jq, jq, jq, jq, jq, jq, jq, jq, jq, jq, jq, jq, jq, jq, jq, jq, jq, jq, jq, jq, jq, jq, jq, jq, jq, jq, jq, jq, jq, jq, jq, jq, jq, jq, jq, jq, jq, jq, jq, jq, jq, jq, jq, jq, jq, jq, jq, jq], s := ⟨⟨[(8, .cells false [dS, dM, dQ]), (7, eQ), (6, eM), (5, eS), (4, .cells false [mS, mT, q]), (3, oQ), (2, oT), (1, oS), (0, .cells true row)], 9, none, []⟩, 9⟩ }, [], [Qst.ln 47 ⟨⟨[(8, .cells false [dS, dM, dQ]), (7, eQ), (6, eM), (5, eS), (4, .cells false [mS, mT, q]), (3, oQ), (2, oT), (1, oS), (0, .cells true row)], 9, none, []⟩, 9⟩ lA (iN n), Qst.val (some (.bool (decide (Int.ofNat i < Int.ofNat n)))) (.bool false)]) := by kernel_rfl
theorem do_suf (lA x33 mS mT q _ _ _ dS dM dQ _ _ _ _ _ _ _ _ _ _ _ : AV) (_ i _ _ _ : Nat) (_ _ _ : Int) (oS oT oQ eS eM eQ _ _ _ _ _ _ _ _ _ _ _ _ _ _ _ _ _ _ _ _ _ : AObj) (row : List AV) : runX Try.prog none_ 80 8 (.code dsuf (T8 lA x33 i) ⟨⟨[(8, .cells false [dS, dM, dQ]), (7, eQ), (6, eM), (5, eS), (4, .cells false [mS, mT, q]), (3, oQ), (2, oT), (1, oS), (0, .cells true row)], 9, none, []⟩, 9⟩) [.call 8 24 0 (.bool true) id] = some ({ e := .ret, ts := [lA, jq, .bool true, .ptr 4 0, .ptr 8 0, iN i, jq, jq, jq, jq, jq, jq, jq, jq, jq, jq, jq, jq, jq, jq, jq, jq, jq, jq, jq, jq, jq, jq, jq, jq, jq, jq, jq, x33, jq, jq, jq, jq, jq, jq, jq, jq, jq, jq, jq, jq, jq, jq, jq, jq, jq, jq, jq, jq, jq, jq, jq, jq, jq, jq, jq, jq, jq, jq, jq, jq, jq, jq, jq, jq, jq, jq, jq, jq, jq, jq, jq, jq, jq, jq, jq, jq, jq, jq, jq, jq, jq, jq, jq, jq, jq, jq, jq, jq, jq, jq, jq, jq, jq, jq, jq, jq, jq, jq, jq, jq, jq, jq, jq, jq, jq, jq, jq, jq, jq, jq, jq, .bool true], s := ⟨⟨[(8, .cells false [dS, dM, dQ]), (7, eQ), (6, eM), (5, eS), (4, .cells false [mS, mT, q]), (3, oQ), (2, oT), (1, oS), (0, .cells true row)], 9, none, []⟩, 9⟩ }, [], [Qst.snd (Task.call 17 [] ⟨⟨[(8, .cells false [dS, dM, dQ]), (7, eQ), (6, eM), (5, eS), (4, .cells false [mS, mT, q]), (3, oQ), (2, oT), (1, oS), (0, .cells true row)], 9, none, []⟩, 9⟩) { e := .ret, ts := [.bool true], s := ⟨⟨[(8, .cells false [dS, dM, dQ]), (7, eQ), (6, eM), (5, eS), (4, .cells false [mS, mT, q]), (3, oQ), (2, oT), (1, oS), (0, .cells true row)], 9, none, []⟩, 9⟩ }]) := by kernel_rfl
theorem do_n (_ _ _ _ _ _ _ _ _ _ _ _ _ _ _ _ _ _ _ _ _ _ : AV) (_ _ _ _ _ : Nat) (_ _ _ : Int) (_ _ _ _ _ _ _ _ _ _ _ _ _ _ _ _ _ _ _ _ _ _ _ _ _ _ _ : AObj) (row : List AV) : runX Try.prog none_ 80 8 (.call 8 [.nilSlice] ⟨⟨[(0, .cells true row)], 1, none, []⟩, 1⟩) [.call 8 24 0 (.bool true) id] = some ({ e := .ret, ts := [.bool true], s := ⟨⟨[(0, .cells true row)], 1, none, []⟩, 3⟩ }, [], [Qst.snd (Task.call 17 [] ⟨⟨[(2, .cells false [.nilSlice, .nilSlice, .nilSlice]), (1, .cells false [.nilMap, .nilMap, .nilSlice]), (0, .cells true row)], 3, none, []⟩, 3⟩) { e := .ret, ts := [.bool true], s := ⟨⟨[(2, .cells false [.nilSlice, .nilSlice, .nilSlice]), (1, .cells false [.nilMap, .nilMap, .nilSlice]), (0, .cells true row)], 3, none, []⟩, 3⟩ }]) := by kernel_rfl
theorem do_e (lA _ _ _ _ _ _ _ _ _ _ _ _ _ _ _ _ _ _ _ _ _ : AV) (n _ _ _ _ : Nat) (_ _ _ : Int) (_ _ _ _ _ _ _ _ _ _ _ _ _ _ _ _ _ _ _ _ _ _ _ _ _ _ _ : AObj) (row : List AV) : runX Try.prog none_ 80 8 (.call 8 [lA] ⟨⟨[(0, .cells true row)], 1, none, []⟩, 1⟩) [.val 8 1 1 (iN (n)), .val 8 1 2 (.bool true), .call 8 2 0 (.bool true) id] = some ({ e := .ret, ts := [.bool true], s := ⟨⟨[(0, .cells true row)], 1, none, []⟩, 1⟩ }, [], [Qst.ln 47 ⟨⟨[(0, .cells true row)], 1, none, []⟩, 1⟩ lA (iN n), Qst.val (some (.bool (decide (Int.ofNat n > 200)))) (.bool true), Qst.snd (Task.call 17 [] ⟨⟨[(0, .cells true row)], 1, none, []⟩, 1⟩) { e := .ret, ts := [.bool true], s := ⟨⟨[(0, .cells true row)], 1, none, []⟩, 1⟩ }]) := by kernel_rfl
theorem dp0 (n g : Nat) (row : List AV) : runX Try.prog none_ 80 8 (.code dc0 (.slice 0 0 n g :: List.replicate 117 uD) ⟨⟨[(6, phO), (5, phO), (4, phO), (3, phO), (2, phO), (1, phO), (0, .cells true row)], 7, none, []⟩, 7⟩) [] = some ({ e := .normal, ts := [.slice 0 0 n g, uD, .bool false, uD, uD, uD, uD, uD, uD, uD, uD, uD, uD, uD, uD, uD, uD, uD, uD, uD, uD, uD, uD, uD, uD, uD, uD, uD, uD, uD, uD, uD, uD, uD, uD, uD, uD, uD, uD, uD, uD, uD, uD, uD, uD, uD, uD, uD, uD, uD, uD, uD, uD, uD, uD, uD, uD, uD, uD, uD, uD, uD, uD, uD, uD, uD, uD, uD, uD, uD, uD, uD, uD, uD, uD, uD, uD, uD, uD, uD, uD, uD, uD, uD, uD, uD, uD, uD, uD, uD, uD, uD, uD, uD, uD, uD, uD, uD, uD, uD, uD, uD, uD, uD, uD, uD, uD, uD, uD, uD, uD, uD, uD, uD, uD, uD, uD, uD], s := ⟨⟨[(6, phO), (5, phO), (4, phO), (3, phO), (2, phO), (1, phO), (0, .cells true row)], 7, none, []⟩, 7⟩ }, [], []) := by kernel_rfl
theorem dp1 (n g : Nat) (row : List AV) : runX Try.prog none_ 80 8 (.code dc1 ([.slice 0 0 n g, uD, .bool false, uD, uD, uD, uD, uD, uD, uD, uD, uD, uD, uD, uD, uD, uD, uD, uD, uD, uD, uD, uD, uD, uD, uD, uD, uD, uD, uD, uD, uD, uD, uD, uD, uD, uD, uD, uD, uD, uD, uD, uD, uD, uD, uD, uD, uD, uD, uD, uD, uD, uD, uD, uD, uD, uD, uD, uD, uD, uD, uD, uD, uD, uD, uD, uD, uD, uD, uD, uD, uD, uD, uD, uD, uD, uD, uD, uD, uD, uD, uD, uD, uD, uD, uD, uD, uD, uD, uD, uD, uD, uD, uD, uD, uD, uD, uD, uD, uD, uD, uD, uD, uD, uD, uD, uD, uD, uD, uD, uD, uD, uD, uD, uD, uD, uD, uD]) ⟨⟨[(6, phO), (5, phO), (4, phO), (3, phO), (2, phO), (1, phO), (0, .cells true row)], 7, none, []⟩, 7⟩) [.val 8 1 1 (iN (n)), .val 8 1 2 (.bool false)] = some ({ e := .normal, ts := [.slice 0 0 n g, uD, .bool false, uD, uD, uD, uD, uD, uD, uD, uD, uD, uD, uD, uD, uD, uD, uD, uD, .slice 0 0 n g, iN n, .bool false, uD, uD, uD, uD, uD, uD, uD, uD, uD, uD, uD, uD, uD, uD, uD, uD, uD, uD, uD, uD, uD, uD, uD, uD, uD, uD, uD, uD, uD, uD, uD, uD, uD, uD, uD, uD, uD, uD, uD, uD, uD, uD, uD, uD, uD, uD, uD, uD, uD, uD, uD, uD, uD, uD, uD, uD, uD, uD, uD, uD, uD, uD, uD, uD, uD, uD, uD, uD, uD, uD, uD, uD, uD, uD, uD, uD, uD, uD, uD, uD, uD, uD, uD, uD, uD, uD, uD, uD, uD, uD, uD, uD, uD, uD, uD, uD], s := ⟨⟨[(6, phO), (5, phO), (4, phO), (3, phO), (2, phO), (1, phO), (0, .cells true row)], 7, none, []⟩, 7⟩ }, [], [Qst.ln 47 ⟨⟨[(6, phO), (5, phO), (4, phO), (3, phO), (2, phO), (1, phO), (0, .cells true row)], 7, none, []⟩, 7⟩ (.slice 0 0 n g) (iN n), Qst.val (some (.bool (decide (Int.ofNat n > 200)))) (.bool false)]) := by kernel_rfl
theorem dp2 (n g : Nat) (row : List AV) : runX Try.prog none_ 80 8 (.code dc2 ([.slice 0 0 n g, uD, .bool false, uD, uD, uD, uD, uD, uD, uD, uD, uD, uD, uD, uD, uD, uD, uD, uD, .slice 0 0 n g, iN n, .bool false, uD, uD, uD, uD, uD, uD, uD, uD, uD, uD, uD, uD, uD, uD, uD, uD, uD, uD, uD, uD, uD, uD, uD, uD, uD, uD, uD, uD, uD, uD, uD, uD, uD, uD, uD, uD, uD, uD, uD, uD, uD, uD, uD, uD, uD, uD, uD, uD, uD, uD, uD, uD, uD, uD, uD, uD, uD, uD, uD, uD, uD, uD, uD, uD, uD, uD, uD, uD, uD, uD, uD, uD, uD, uD, uD, uD, uD, uD, uD, uD, uD, uD, uD, uD, uD, uD, uD, uD, uD, uD, uD, uD, uD, uD, uD, uD]) ⟨⟨[(6, phO), (5, phO), (4, phO), (3, phO), (2, phO), (1, phO), (0, .cells true row)], 7, none, []⟩, 7⟩) [] = some ({ e := .normal, ts := [.slice 0 0 n g, uD, .bool false, .ptr 7 0, uD, uD, uD, uD, uD, uD, uD, uD, uD, uD, uD, uD, uD, uD, uD, .slice 0 0 n g, iN n, .bool false, uD, .ptr 7 0, uD, uD, uD, uD, uD, uD, uD, uD, uD, uD, uD, uD, uD, uD, uD, uD, uD, uD, uD, uD, uD, uD, uD, uD, uD, uD, uD, uD, uD, uD, uD, uD, uD, uD, uD, uD, uD, uD, uD, uD, uD, uD, uD, uD, uD, uD, uD, uD, uD, uD, uD, uD, uD, uD, uD, uD, uD, uD, uD, uD, uD, uD, uD, uD, uD, uD, uD, uD, uD, uD, uD, uD, uD, uD, uD, uD, uD, uD, uD, uD, uD, uD, uD, uD, uD, uD, uD, uD, uD, uD, uD, uD, uD, uD], s := ⟨⟨[(7, .cells false [.nilMap, .nilMap, .nilSlice]), (6, phO), (5, phO), (4, phO), (3, phO), (2, phO), (1, phO), (0, .cells true row)], 8, none, []⟩, 8⟩ }, [], []) := by kernel_rfl
theorem dp3 (n g : Nat) (row : List AV) : runX Try.prog none_ 80 8 (.code dc3 ([.slice 0 0 n g, uD, .bool false, .ptr 7 0, uD, uD, uD, uD, uD, uD, uD, uD, uD, uD, uD, uD, uD, uD, uD, .slice 0 0 n g, iN n, .bool false, uD, .ptr 7 0, uD, uD, uD, uD, uD, uD, uD, uD, uD, uD, uD, uD, uD, uD, uD, uD, uD, uD, uD, uD, uD, uD, uD, uD, uD, uD, uD, uD, uD, uD, uD, uD, uD, uD, uD, uD, uD, uD, uD, uD, uD, uD, uD, uD, uD, uD, uD, uD, uD, uD, uD, uD, uD, uD, uD, uD, uD, uD, uD, uD, uD, uD, uD, uD, uD, uD, uD, uD, uD, uD, uD, uD, uD, uD, uD, uD, uD, uD, uD, uD, uD, uD, uD, uD, uD, uD, uD, uD, uD, uD, uD, uD, uD, uD]) ⟨⟨[(7, .cells false [.nilMap, .nilMap, .nilSlice]), (6, phO), (5, phO), (4, phO), (3, phO), (2, phO), (1, phO), (0, .cells true row)], 8, none, []⟩, 8⟩) [] = some ({ e := .normal, ts := [.slice 0 0 n g, uD, .bool false, .ptr 7 0, .ptr 8 0, uD, uD, uD, uD, uD, uD, uD, uD, uD, uD, uD, uD, uD, uD, .slice 0 0 n g, iN n, .bool false, uD, .ptr 7 0, uD, uD, uD, uD, uD, uD, uD, uD, uD, uD, uD, uD, uD, uD, uD, uD, uD, uD, uD, uD, uD, uD, uD, uD, uD, uD, uD, uD, uD, uD, uD, uD, uD, uD, uD, uD, uD, uD, uD, uD, uD, uD, uD, uD, uD, uD, uD, uD, uD, uD, uD, uD, uD, uD, uD, uD, uD, uD, uD, uD, uD, uD, uD, uD, uD, uD, uD, uD, uD, uD, uD, uD, uD, uD, uD, uD, uD, uD, uD, uD, uD, uD, uD, uD, uD, uD, uD, uD, uD, uD, uD, uD, uD, uD], s := ⟨⟨[(8, .cells false [.nilSlice, .nilSlice, .nilSlice]), (7, .cells false [.nilMap, .nilMap, .nilSlice]), (6, phO), (5, phO), (4, phO), (3, phO), (2, phO), (1, phO), (0, .cells true row)], 9, none, []⟩, 9⟩ }, [], []) := by kernel_rfl
theorem dp4 (n g : Nat) (row : List AV) : runX Try.prog none_ 80 8 (.code dc4 ([.slice 0 0 n g, uD, .bool false, .ptr 7 0, .ptr 8 0, uD, uD, uD, uD, uD, uD, uD, uD, uD, uD, uD, uD, uD, uD, .slice 0 0 n g, iN n, .bool false, uD, .ptr 7 0, uD, uD, uD, uD, uD, uD, uD, uD, uD, uD, uD, uD, uD, uD, uD, uD, uD, uD, uD, uD, uD, uD, uD, uD, uD, uD, uD, uD, uD, uD, uD, uD, uD, uD, uD, uD, uD, uD, uD, uD, uD, uD, uD, uD, uD, uD, uD, uD, uD, uD, uD, uD, uD, uD, uD, uD, uD, uD, uD, uD, uD, uD, uD, uD, uD, uD, uD, uD, uD, uD, uD, uD, uD, uD, uD, uD, uD, uD, uD, uD, uD, uD, uD, uD, uD, uD, uD, uD, uD, uD, uD, uD, uD, uD]) ⟨⟨[(8, .cells false [.nilSlice, .nilSlice, .nilSlice]), (7, .cells false [.nilMap, .nilMap, .nilSlice]), (6, phO), (5, phO), (4, phO), (3, phO), (2, phO), (1, phO), (0, .cells true row)], 9, none, []⟩, 9⟩) [] = some ({ e := .normal, ts := [.slice 0 0 n g, uD, .bool false, .ptr 7 0, .ptr 8 0, iN 0, uD, uD, uD, uD, uD, uD, uD, uD, uD, uD, uD, uD, uD, .slice 0 0 n g, iN n, .bool false, uD, .ptr 7 0, uD, uD, uD, uD, uD, uD, uD, uD, uD, uD, uD, uD, uD, uD, uD, uD, uD, uD, uD, uD, uD, uD, uD, uD, uD, uD, uD, uD, uD, uD, uD, uD, uD, uD, uD, uD, uD, uD, uD, uD, uD, uD, uD, uD, uD, uD, uD, uD, uD, uD, uD, uD, uD, uD, uD, uD, uD, uD, uD, uD, uD, uD, uD, uD, uD, uD, uD, uD, uD, uD, uD, uD, uD, uD, uD, uD, uD, uD, uD, uD, uD, uD, uD, uD, uD, uD, uD, uD, uD, uD, uD, uD, uD, uD], s := ⟨⟨[(8, .cells false [.nilSlice, .nilSlice, .nilSlice]), (7, .cells false [.nilMap, .nilMap, .nilSlice]), (6, phO), (5, phO), (4, phO), (3, phO), (2, phO), (1, phO), (0, .cells true row)], 9, none, []⟩, 9⟩ }, [], []) := by kernel_rfl
end Go.Proofs.Ythooafgfpnedhaa.specsDo.sd
namespace Go.Proofs.Ythooafgfpnedhaa.specsDo.sd
open Go Go.Mini
/-! ### SpecsDo's loop: where it stands between two ops -/
abbrev Op3 : Type := Nat × Int × Int
def opC (z : Op3) : List AV := [.int .u8 (Int.ofNat z.1), .int .u64 z.2.1, .int .u64 z.2.2]
theorem opNm (p : Nat → Bool) (L : List Op3) : namess p (rowsOf opC L) = true := names_rows (fun _ => rfl) L
theorem t47 : Try.prog.underlying 47 = some (.slice 24) := by kernel_rfl
theorem s24 : sizeA Try.prog 24 = some 3 := by kernel_rfl
theorem a24 : isAggA Try.prog 24 = some true := by kernel_rfl
def X33 (x : AV) : Prop := x = undefA ∨ ∃ z : Op3, x = .agg (opC z)
theorem X33.ren {x : AV} (h : X33 x) (π : Nat → Nat) : x.ren π = x := by
  rcases h with rfl | ⟨z, rfl⟩ <;> rfl
theorem X33.nm {x : AV} (h : X33 x) (p : Nat → Bool) : x.names p = true := by
  rcases h with rfl | ⟨z, rfl⟩ <;> rfl
theorem lv_na (l : List Pr) (b : Nat) : uu = junkOf (lv l b) ∧ junkable (lv l b) = true := by
  unfold lv
  split <;> exact ⟨rfl, rfl⟩
/-- The slots, with the states' names. -/
def T8p (lA x33 : AV) (p q i : Nat) : List AV := [lA, uu, uu, .ptr p 0, .ptr q 0, .int .i64 (Int.ofNat i)] ++ List.replicate 27 uu ++ [x33] ++ List.replicate 84 uu
theorem rens_T8 {x33 : AV} (h33 : X33 x33) {π : Nat → Nat} (h0 : π 0 = 0) (n c i : Nat) : rens π (T8 (.slice 0 0 n c) x33 i) = T8p (.slice 0 0 n c) x33 (π 4) (π 8) i := by
  show [.slice (π 0) 0 n c, uu, uu, .ptr (π 4) 0, .ptr (π 8) 0, .int .i64 (Int.ofNat i)] ++ rens π (List.replicate 27 uu) ++ [x33.ren π] ++ rens π (List.replicate 84 uu) = _
  rw [h0, h33.ren, rensW, rensW]
  rfl
theorem names_T8 {x33 : AV} (h33 : X33 x33) {p : Nat → Bool} (h0 : p 0 = true) (h4 : p 4 = true) (h8 : p 8 = true) (n c i : Nat) : namess p (T8 (.slice 0 0 n c) x33 i) = true := by
  unfold T8
  simp only [namess, List.replicate, List.cons_append, List.nil_append, h0, h4, h8, h33.nm, AV.names, Bool.and_self]
def bsQ (st : S3) (ds : DP) (o1 o2 o3 : AObj) : List (Nat × AObj) := [(8, .cells false [lv ds.1 5, lv ds.2.1 6, qD ds.2.2 7]), (7, o3), (6, o2), (5, o1), (4, .cells false [st.mS, st.mT, st.q]), (3, st.oQ), (2, st.oT), (1, st.oS)]
abbrev ft : List Nat := [8, 7, 6, 5, 4, 3, 2, 1]
section
variable {L : List Op3} {n c : Nat}
theorem canQ {S T : Option (List (Int × Int))} {Q : Option (List Int × Nat)} {st : S3} {ds : DP} {o1 o2 o3 : AObj} (inv : Inv3 S T Q st) (invD : InvD ds ⟨lv ds.1 1, lv ds.2.1 2, qD ds.2.2 3, o1, o2, o3⟩)
    {C0 : AS} {foot0 : List Nat} {T0 ts1 : List AV} {cd : Code} {e : AExit} {i : Nat} {bs1 : List (Nat × AObj)} {len1 nx1 : Nat} {esc1 : Option Nat} {wr1 : List Nat} {x33 : AV} (h33 : X33 x33)
    (hr : Sound Try.prog (.code cd T0 C0) ⟨e, ts1, ⟨⟨bs1, len1, esc1, wr1⟩, nx1⟩⟩) (π : Nat → Nat) (h0 : π 0 = 0) (hinj : ∀ b ∈ ft, ∀ c ∈ ft, π b = π c → b = c) (hne : ∀ b ∈ ft, π b ≠ 0)
    (g0 : getB bs1 0 = some (.cells true (rowsOf opC L))) (g1 : getB bs1 (π 1) = some st.oS) (g2 : getB bs1 (π 2) = some st.oT) (g3 : getB bs1 (π 3) = some st.oQ) (g4 : getB bs1 (π 4) = some (.cells false [st.mS.ren π, st.mT.ren π, st.q.ren π]))
    (g5 : getB bs1 (π 5) = some o1) (g6 : getB bs1 (π 6) = some o2) (g7 : getB bs1 (π 7) = some o3) (g8 : getB bs1 (π 8) = some (.cells false [lv ds.1 (π 5), lv ds.2.1 (π 6), qD ds.2.2 (π 7)]))
    (hcov : eachX (fun b o => o = .dead ∨ Free o ∨ ∃ c, (c = 0 ∨ c ∈ ft) ∧ π c = b) bs1) (hkeys : (bs1.all fun y => Nat.blt y.1 nx1) = true) (hnx : C0.nx ≤ nx1) (hst : ∀ b, b < C0.nx → b ∉ foot0 → getB bs1 b = C0.get b)
    (hts : seesT (fun b => b) (fun _ => true) (T8p (.slice 0 0 n c) x33 (π 4) (π 8) i) ts1) :
    Go.Mini.Good Try.prog [(0, rowsOf opC L)] C0 foot0 T0 cd e (T8 (.slice 0 0 n c) x33 i) (canS (bsQ st ds o1 o2 o3) (rowsOf opC L) 9 9) ft := by
  refine Good.can (bsC := bsQ st ds o1 o2 o3) (nxC := 9) hr noG π h0 (opNm _ _)
    ⟨⟨show 0 < 8 by decide, show 8 < 9 by decide, rfl, rfl, and2 (lv_nm _ (by decide)) (and2 (lv_nm _ (by decide)) (and2 (qD_nm _ (by decide)) rfl)), ?_⟩,
      ⟨show 0 < 7 by decide, show 7 < 9 by decide, rfl, invD.q.2.1.1, invD.q.2.1.nm _, by rw [invD.q.2.1.ren]; exact g7⟩,
      ⟨show 0 < 6 by decide, show 6 < 9 by decide, rfl, invD.t.2.1.1, invD.t.2.1.nm _, by rw [invD.t.2.1.ren]; exact g6⟩,
      ⟨show 0 < 5 by decide, show 5 < 9 by decide, rfl, invD.s.2.1.1, invD.s.2.1.nm _, by rw [invD.s.2.1.ren]; exact g5⟩,
      ⟨show 0 < 4 by decide, show 4 < 9 by decide, rfl, rfl, and2 (inv.s.nm (by decide)) (and2 (inv.t.nm (by decide)) (and2 (inv.q.nm (by decide)) rfl)), g4⟩,
      ⟨show 0 < 3 by decide, show 3 < 9 by decide, rfl, inv.q.fr.1, inv.q.fr.nm _, by rw [inv.q.fr.ren]; exact g3⟩,
      ⟨show 0 < 2 by decide, show 2 < 9 by decide, rfl, inv.t.fr.1, inv.t.fr.nm _, by rw [inv.t.fr.ren]; exact g2⟩,
      ⟨show 0 < 1 by decide, show 1 < 9 by decide, rfl, inv.s.fr.1, inv.s.fr.nm _, by rw [inv.s.fr.ren]; exact g1⟩, trivial⟩
    (show ft.Nodup by decide) hinj hne g0 hcov hkeys hnx (by decide) (fun c hc h => .inl ?_) hst ?_ (names_T8 h33 rfl rfl rfl _ _ _)
  · show getB bs1 (π 8) = some (.cells false [(lv ds.1 5).ren π, (lv ds.2.1 6).ren π, (qD ds.2.2 7).ren π])
    rw [lv_ren, lv_ren, qD_ren]
    exact g8
  · show c ∈ ft
    simp
    omega
  · rw [rens_T8 h33 h0]
    exact hts
end
theorem get_up {s : AS} {o x : AObj} {c : Nat} (h : s.get c = some x) (hc : c < s.nx) : (s.push o).get c = some x := by rw [get_push, if_neg (by omega), h]
theorem MO.mv {S : Option (List (Int × Int))} {m : AV} {b : Nat} {o : AObj} (h : MO S m b o) (π : Nat → Nat) : MO S (m.ren π) (π b) o := by
  cases S with
  | none => exact ⟨by rw [h.1]; rfl, h.2⟩
  | some es => exact ⟨by rw [h.1]; rfl, h.2⟩
theorem QO.mv {Q : Option (List Int × Nat)} {m : AV} {b : Nat} {o : AObj} (h : QO Q m b o) (π : Nat → Nat) : QO Q (m.ren π) (π b) o := by
  cases Q with
  | none => exact ⟨by rw [h.1]; rfl, h.2⟩
  | some z => exact ⟨by rw [h.1]; rfl, h.2⟩
theorem rowQD (L : List Int) (b : Nat) : QD L (qD L b) b (rowO L) := ⟨rfl, rowO_free L, fun h => if_neg h⟩
/-- The body's renaming. -/
def pi8 (r r' N b : Nat) : Nat := if b ≤ 4 then moved r 10 b else if b = 8 then 8 else mvD r' N (b - 4)
theorem pi8_inj {r r' N : Nat} (h1 : r = 0 ∨ r = 1 ∨ r = 2 ∨ r = 3) (h2 : r' = 0 ∨ r' = 1 ∨ r' = 2 ∨ r' = 3) (hN : N = 11 ∨ N = 12) : pi8 r r' N 0 = 0 ∧ pi8 r r' N 4 = 4 ∧ (∀ b ∈ ft, ∀ c ∈ ft, pi8 r r' N b = pi8 r r' N c → b = c) ∧ ∀ b ∈ ft, pi8 r r' N b ≠ 0 := by
  rcases h1 with rfl | rfl | rfl | rfl <;> rcases h2 with rfl | rfl | rfl | rfl <;> rcases hN with rfl | rfl <;> decide
end Go.Proofs.Ythooafgfpnedhaa.specsDo.sd
namespace Go.Proofs.Ythooafgfpnedhaa.specsDo.sd
open Go Go.Mini
/-! ### SpecsDo's loop: one op -/
theorem ans_le (ds : DP) (op : Nat) (k v : Int) : (stepD ds op k v).1.1 ≤ 2 := by
  have c : op = 0 ∨ op = 1 ∨ op = 2 ∨ op = 3 ∨ op = 4 ∨ op = 5 ∨ op = 6 ∨ op = 7 ∨ 8 ≤ op := by omega
  rcases c with rfl | rfl | rfl | rfl | rfl | rfl | rfl | rfl | h
  · show (if hasL ds.1 k then _ else _ : (Nat × Int) × DP).1.1 ≤ 2
    split <;> simp
  · show (if hasL ds.1 k then _ else _ : (Nat × Int) × DP).1.1 ≤ 2
    split <;> simp
  · show (if hasL ds.1 k then 1 else 2 : Nat) ≤ 2
    split <;> simp
  · show 1 ≤ 2
    decide
  · show (popD ds).1.1 ≤ 2
    unfold popD
    split <;> simp
  · show (if hasL ds.2.1 k then _ else _ : (Nat × Int) × DP).1.1 ≤ 2
    split <;> simp
  · show (if hasL ds.2.1 k then _ else _ : (Nat × Int) × DP).1.1 ≤ 2
    split <;> simp
  · show (if hasL ds.2.1 k then _ else _ : (Nat × Int) × DP).1.1 ≤ 2
    split <;> simp
  · obtain ⟨m, rfl⟩ : ∃ m, op = m + 8 := ⟨op - 8, by omega⟩
    show 0 ≤ 2
    decide
theorem ld_op {L : List Op3} {i : Nat} {z : Op3} (hx : L[i]? = some z) {s : AS} (h : s.get 0 = some (.cells true (rowsOf opC L))) : (Qst.ld 24 s (.ptr 0 (0 + i * 3)) (.agg (opC z))).ok Try.prog := by
  rw [Nat.zero_add]
  exact ld_row (f := opC) (n := 3) (fun _ => rfl) a24 s24 h hx
theorem nq {a b : Int} (h : a = b) : (Qst.val (some (AV.bool (a != b))) (AV.bool false)).ok Try.prog := by
  subst h
  simp [Qst.ok]
/-- Behind both Do. -/
def sBoth (box : AObj) (xA xB xN y1 y2 y3 x1 x2 x3 : AObj) (c4 c8 : List AV) (row : List AV) : AS := ⟨⟨[(12, xB), (11, xA), (10, xN), (9, box), (8, .cells false c8), (7, y3), (6, y2), (5, y1), (4, .cells false c4), (3, x3), (2, x2), (1, x1), (0, .cells true row)], 13, none, [7, 6, 5, 8, 3, 2, 1, 4, 9]⟩, 13⟩
section
variable {L : List Op3} {n c : Nat} (h1 : n ≤ L.length) (hs : n ≤ 200) (hB : ∀ z ∈ L, z.1 < 256 ∧ WF z.2.1 ∧ WF z.2.2)
include h1 hs hB
theorem d_step {S T : Option (List (Int × Int))} {Q : Option (List Int × Nat)} {st : S3} {ds : DP} {o1 o2 o3 : AObj} (inv : Inv3 S T Q st) (invD : InvD ds ⟨lv ds.1 1, lv ds.2.1 2, qD ds.2.2 3, o1, o2, o3⟩) (rel : Rel (rep S T Q) ds) {i : Nat} (hi : i < n) (l1 : ds.1.length ≤ i) (l2 : ds.2.1.length ≤ i) (l3 : ds.2.2.length ≤ i) (l4 : qlen Q ≤ i) {x33 : AV} (_ : X33 x33) :
    ∃ S' T' Q' st' ds' o1' o2' o3' x33', Inv3 S' T' Q' st' ∧ InvD ds' ⟨lv ds'.1 1, lv ds'.2.1 2, qD ds'.2.2 3, o1', o2', o3'⟩ ∧ Rel (rep S' T' Q') ds' ∧ ds'.1.length ≤ i + 1 ∧ ds'.2.1.length ≤ i + 1 ∧ ds'.2.2.length ≤ i + 1 ∧ qlen Q' ≤ i + 1 ∧ X33 x33' ∧
      Go.Mini.Good Try.prog [(0, rowsOf opC L)] (canS (bsQ st ds o1 o2 o3) (rowsOf opC L) 9 9) ft (T8 (.slice 0 0 n c) x33 i) (loopAt Try.prog 8 0) .normal (T8 (.slice 0 0 n c) x33' (i + 1)) (canS (bsQ st' ds' o1' o2' o3') (rowsOf opC L) 9 9) ft := by
  have hil : i < L.length := by omega
  obtain ⟨⟨op, k, v⟩, hx⟩ : ∃ z, L[i]? = some z := ⟨_, List.getElem?_eq_getElem hil⟩
  obtain ⟨b1, b2, b3⟩ := hB _ (List.mem_of_getElem? hx)
  simp only at b1 b2 b3
  have hcp : Free (.cells false [.int .u8 (Int.ofNat op), .int .u64 k, .int .u64 v]) := ⟨rfl, rfl⟩
  obtain ⟨S', T', Q', st', r, x1, x2, x3, xN, q1, q2, q3, q4, q5⟩ := doAll (op := op) (s := ⟨⟨[(9, .cells false [.int .u8 (Int.ofNat op), .int .u64 k, .int .u64 v]), (8, .cells false [lv ds.1 5, lv ds.2.1 6, qD ds.2.2 7]), (7, o3), (6, o2), (5, o1), (4, .cells false [st.mS, st.mT, st.q]), (3, st.oQ), (2, st.oT), (1, st.oS), (0, .cells true (rowsOf opC L))], 10, none, [9]⟩, 10⟩) inv rfl rfl rfl rfl b2 b3 (by omega)
  have c0 : r = 0 ∨ r = 1 ∨ r = 2 ∨ r = 3 := by
    have := q4.le
    omega
  obtain ⟨std, r', nn, y1, y2, y3, xA, xB, w1, w4, w5⟩ := doD_at (op := op) (k := k) (v := v) (row := rowsOf opC L) (cp := .cells false [.int .u8 (Int.ofNat op), .int .u64 k, .int .u64 v]) (oW := xN) (s := ⟨⟨[(10, xN), (9, .cells false [.int .u8 (Int.ofNat op), .int .u64 k, .int .u64 v]), (8, .cells false [lv ds.1 5, lv ds.2.1 6, qD ds.2.2 7]), (7, o3), (6, o2), (5, o1), (4, .cells false [st'.mS.ren (moved r 10), st'.mT.ren (moved r 10), st'.q.ren (moved r 10)]), (3, x3), (2, x2), (1, x1), (0, .cells true (rowsOf opC L))], 11, none, [3, 2, 1, 4, 9]⟩, 11⟩) (by omega) (by omega) (by omega) invD rfl (opNm _ _) rfl rfl rfl rfl rfl hcp rfl q4.fN
  have c1 := w4.le
  have c2 := w4.hn
  obtain ⟨ea, rel'⟩ := step_rel rel op k v
  rw [← q2] at rel'
  obtain ⟨e1, e2, e3⟩ := stepD_len ds op k v
  have e4 := ans_le ds op k v
  rw [ea] at q5
  generalize stepD ds op k v = rd at *
  obtain ⟨⟨a, y⟩, ds'⟩ := rd
  simp only at e1 e2 e3 e4 rel' w1
  obtain ⟨N, hN, hN'⟩ : ∃ N, N = 11 + (nn - 7) ∧ (N = 11 ∨ N = 12) := ⟨_, rfl, by omega⟩
  obtain ⟨s12, hs12⟩ : ∃ s, s = sBoth (.cells false [.int .u8 (Int.ofNat op), .int .u64 k, .int .u64 v]) xA xB xN y1 y2 y3 x1 x2 x3 [st'.mS.ren (moved r 10), st'.mT.ren (moved r 10), st'.q.ren (moved r 10)] [lv ds'.1 (mvD r' N 1), lv ds'.2.1 (mvD r' N 2), qD ds'.2.2 (mvD r' N 3)] (rowsOf opC L) := ⟨_, rfl⟩
  have gD1 : s12.get (mvD r' N 1) = some std.oS := by
    subst hs12 hN
    rcases c2 with rfl | rfl <;> rcases c1 with rfl | rfl | rfl | rfl <;> first | exact congrArg some (w4.e1 (by decide)) | exact congrArg some (w4.n1 rfl)
  have gD2 : s12.get (mvD r' N 2) = some std.oT := by
    subst hs12 hN
    rcases c2 with rfl | rfl <;> rcases c1 with rfl | rfl | rfl | rfl <;> first | exact congrArg some (w4.e2 (by decide)) | exact congrArg some (w4.n2 rfl)
  have gD3 : s12.get (mvD r' N 3) = some std.oQ := by
    subst hs12 hN
    rcases c2 with rfl | rfl <;> rcases c1 with rfl | rfl | rfl | rfl <;> first | exact congrArg some (w4.e3 (by decide)) | exact congrArg some (w4.n3 rfl)
  have gP1 : s12.get (moved r 10 1) = some st'.oS := by
    subst hs12
    rcases c0 with rfl | rfl | rfl | rfl <;> first | exact congrArg some (q4.e1 (by decide)) | exact congrArg some (q4.n1 rfl)
  have gP2 : s12.get (moved r 10 2) = some st'.oT := by
    subst hs12
    rcases c0 with rfl | rfl | rfl | rfl <;> first | exact congrArg some (q4.e2 (by decide)) | exact congrArg some (q4.n2 rfl)
  have gP3 : s12.get (moved r 10 3) = some st'.oQ := by
    subst hs12
    rcases c0 with rfl | rfl | rfl | rfl <;> first | exact congrArg some (q4.e3 (by decide)) | exact congrArg some (q4.n3 rfl)
  have mD : mvD r' N 1 < 13 ∧ mvD r' N 2 < 13 ∧ mvD r' N 3 < 13 := by
    clear hN
    rcases hN' with rfl | rfl <;> rcases c1 with rfl | rfl | rfl | rfl <;> decide
  have mP : (moved r 10 1 < 13 ∧ 4 ≠ moved r 10 1) ∧ (moved r 10 2 < 13 ∧ 4 ≠ moved r 10 2) ∧ (moved r 10 3 < 13 ∧ 4 ≠ moved r 10 3) := by
    rcases c0 with rfl | rfl | rfl | rfl <;> decide
  have n12 : s12.nx = 13 := by rw [hs12]; rfl
  have g4 : s12.get 4 = some (.cells false [st'.mS.ren (moved r 10), st'.mT.ren (moved r 10), st'.q.ren (moved r 10)]) := by rw [hs12]; rfl
  obtain ⟨s14, hs14⟩ : ∃ s, s = (s12.push (rowO (ds'.1.map (·.1)))).push (rowO (ds'.1.map (·.2))) := ⟨_, rfl⟩
  obtain ⟨s16, hs16⟩ : ∃ s, s = (s14.push (rowO (ds'.2.1.map (·.1)))).push (rowO (ds'.2.1.map (·.2))) := ⟨_, rfl⟩
  have n14 : s14.nx = 15 := by
    rw [hs14]
    show s12.nx + 1 + 1 = 15
    rw [n12]
  have n16 : s16.nx = 17 := by
    rw [hs16]
    show s14.nx + 1 + 1 = 17
    rw [n14]
  have up14 : ∀ {b o}, s12.get b = some o → b < 13 → s14.get b = some o := fun h hb => by
    rw [hs14]
    exact get_up (get_up h (by omega)) (by show _ < s12.nx + 1; omega)
  have up16 : ∀ {b o}, s14.get b = some o → b < 15 → s16.get b = some o := fun h hb => by
    rw [hs16]
    exact get_up (get_up h (by omega)) (by show _ < s14.nx + 1; omega)
  have kS := keysC (l := ds'.1) (s := s12) (b := mvD r' N 1) (by omega) (fun h => ⟨false, by rw [gD1, w1.s.2.2 h]⟩)
  have kM := keysC (l := ds'.2.1) (s := s14) (b := mvD r' N 2) (by omega) (fun h => ⟨false, by rw [up14 gD2 mD.2.1, w1.t.2.2 h]⟩)
  rw [n12, ← hs14] at kS
  rw [n14, ← hs16] at kM
  have lS : (S'.getD []).length ≤ 200 := by
    have := len_rel rel'.s
    have : (S'.getD []).length = ds'.1.length := this
    omega
  have lT : (T'.getD []).length ≤ 200 := by
    have := len_rel rel'.t
    have : (T'.getD []).length = ds'.2.1.length := this
    omega
  have is := q1.s.mv (moved r 10)
  have it := q1.t.mv (moved r 10)
  have iq := QO.mv q1.q (moved r 10)
  obtain ⟨v1, v2, p5, p6, i5, i6, kP⟩ := mapC (s := s16) is it iq (up16 (up14 g4 (by decide)) (by decide)) (by omega) (by omega) (up16 (up14 gP2 mP.2.1.1) (by omega)) mP.2.1.2 (nodup_rel rel'.t) lT
  rw [n16] at i5 i6
  obtain ⟨s18, hs18⟩ : ∃ s, s = (s16.push p5).push p6 := ⟨_, rfl⟩
  have n18 : s18.nx = 19 := by
    rw [hs18]
    show s16.nx + 1 + 1 = 19
    rw [n16]
  have up18 : ∀ {b o}, s16.get b = some o → b < 17 → s18.get b = some o := fun h hb => by
    rw [hs18]
    exact get_up (get_up h (by omega)) (by show _ < s16.nx + 1; omega)
  rw [← hs18] at kP
  have up : ∀ {b o}, s12.get b = some o → b < 13 → s18.get b = some o := fun h hb => up18 (up16 (up14 h hb) (by omega)) (by omega)
  obtain ⟨v7, p7, i7, kX⟩ := setC (s := s18) is it iq (up g4 (by decide)) (up gP1 mP.1.1) mP.1.2 (nodup_rel rel'.s) lS
  rw [n18] at i7
  obtain ⟨s19, hs19⟩ : ∃ s, s = s18.push p7 := ⟨_, rfl⟩
  have n19 : s19.nx = 20 := by
    rw [hs19]
    show s18.nx + 1 = 20
    rw [n18]
  rw [← hs19] at kX
  have up19 : ∀ {b o}, s18.get b = some o → b < 19 → s19.get b = some o := fun h hb => by
    rw [hs19]
    exact get_up h (by omega)
  obtain ⟨v8, p8, i8, kU⟩ := queC (s := s19) is it iq (up19 (up g4 (by decide)) (by decide)) (up19 (up gP3 mP.2.2.1) (by omega)) mP.2.2.2 (by omega)
  rw [n19] at i8
  obtain ⟨s20, hs20⟩ : ∃ s, s = s19.push p8 := ⟨_, rfl⟩
  rw [← hs20] at kU
  have up20 : ∀ {b o}, s12.get b = some o → b < 13 → s20.get b = some o := fun h hb => by
    rw [hs20]
    exact get_up (up19 (up h hb) (by omega)) (by omega)
  have j13 : s20.get 13 = some (rowO (ds'.1.map (·.1))) := by
    subst hs20 hs19 hs18 hs16 hs14 hs12
    rfl
  have j15 : s20.get 15 = some (rowO (ds'.2.1.map (·.1))) := by
    subst hs20 hs19 hs18 hs16 hs14 hs12
    rfl
  have j16 : s20.get 16 = some (rowO (ds'.2.1.map (·.2))) := by
    subst hs20 hs19 hs18 hs16 hs14 hs12
    rfl
  have j17 : s20.get 17 = some p5 := by
    subst hs20 hs19 hs18 hs16 hs14 hs12
    rfl
  have j18 : s20.get 18 = some p6 := by
    subst hs20 hs19 hs18 hs16 hs14 hs12
    rfl
  have j19 : s20.get 19 = some p7 := by
    subst hs20 hs19 hs18 hs16 hs14 hs12
    rfl
  have j20 : s20.get 20 = some p8 := by
    subst hs20 hs19 hs18 hs16 hs14 hs12
    rfl
  have t7 : PL v7 19 p7 (ds'.1.map (·.1)) := by
    have := keys_rel rel'.s
    rw [← this]
    exact i7
  have t8 : PL v8 20 p8 ds'.2.2 := by
    rw [← rel'.q]
    exact i8
  have t5 : PL v1 17 p5 (ds'.2.1.map (·.1)) := by
    have := keys_rel rel'.t
    rw [← this]
    exact i5
  have t6 : PL v2 18 p6 (ds'.2.1.map (·.2)) := by
    have := vals_rel rel'.t
    rw [← this]
    exact i6
  have z1 : (ds'.1.map (·.1)).length < 1000000 := by rw [List.length_map]; omega
  have z2 : ds'.2.2.length < 1000000 := by omega
  have z3 : (ds'.2.1.map (·.1)).length < 1000000 := by rw [List.length_map]; omega
  have z4 : (ds'.2.1.map (·.2)).length < 1000000 := by rw [List.length_map]; omega
  have iD3 : QD ds'.2.2 (qD ds'.2.2 (mvD r' N 3)) (mvD r' N 3) std.oQ := ⟨rfl, w1.q.2⟩
  have sn1 := sn_at (s := s20) t7 (rowQD _ 13) (by decide) j19 j13 z1
  have sn2 := sn_at (s := s20) t8 iD3 (by omega) j20 (up20 gD3 mD.2.2) z2
  have sn3 := sn_at (s := s20) t5 (rowQD _ 15) (by decide) j17 j15 z3
  have sn4 := sn_at (s := s20) t6 (rowQD _ 16) (by decide) j18 j16 z4
  obtain ⟨u7, f7, sp1⟩ := sp_at t7 j19 z1
  obtain ⟨u8, f8, sp2⟩ := sp_at (s := s20.set 19 u7) t8 (by rw [get_set_ne (by decide)]; exact j20) z2
  obtain ⟨u5, f5, sp3⟩ := sp_at (s := (s20.set 19 u7).set 20 u8) t5 (by rw [get_set_ne (by decide), get_set_ne (by decide)]; exact j17) z3
  obtain ⟨u6, f6, sp4⟩ := sp_at (s := ((s20.set 19 u7).set 20 u8).set 17 u5) t6 (by rw [get_set_ne (by decide), get_set_ne (by decide), get_set_ne (by decide)]; exact j18) z4
  subst hs20 hs19 hs18 hs16 hs14
  have w5' : Sound Try.prog (.call 14 [.ptr 8 0, .int .i64 (Int.ofNat op), .int .u64 k, .int .u64 v] ⟨⟨[(10, xN), (9, .cells false [.int .u8 (Int.ofNat op), .int .u64 k, .int .u64 v]), (8, .cells false [lv ds.1 5, lv ds.2.1 6, qD ds.2.2 7]), (7, o3), (6, o2), (5, o1), (4, .cells false [st'.mS.ren (moved r 10), st'.mT.ren (moved r 10), st'.q.ren (moved r 10)]), (3, x3), (2, x2), (1, x1), (0, .cells true (rowsOf opC L))], 11, none, [3, 2, 1, 4, 9]⟩, 11⟩) ⟨.ret, [.tuple [.int .i64 (Int.ofNat a), .int .u64 y]], s12⟩ := by
    rw [hs12, hN]
    exact w5
  rw [hs12] at w5' kS kM kP kX kU sn1 sn2 sn3 sn4 sp1 sp2 sp3 sp4
  have len47 : ∀ s, (Qst.ln 47 s (.slice 0 0 n c) (.int .i64 (Int.ofNat n))).ok Try.prog := fun s => by
    simp only [Qst.ok, lenA, t47]
    rfl
  have run := runX_sound mixed none_sound (do_ok (.slice 0 0 n c) x33 st.mS st.mT st.q (st'.mS.ren (moved r 10)) (st'.mT.ren (moved r 10)) (st'.q.ren (moved r 10)) (lv ds.1 5) (lv ds.2.1 6) (qD ds.2.2 7) (lv ds'.1 (mvD r' N 1)) (lv ds'.2.1 (mvD r' N 2)) (qD ds'.2.2 (mvD r' N 3)) (qD (ds'.1.map fun p : Pr => p.1) 13) (qD (ds'.1.map fun p : Pr => p.2) 14) (qD (ds'.2.1.map fun p : Pr => p.1) 15) (qD (ds'.2.1.map fun p : Pr => p.2) 16) v1 v2 v7 v8 n i (0 + i * 3) op a k v y st.oS st.oT st.oQ o1 o2 o3 x1 x2 x3 xN y1 y2 y3 xA xB (rowO (ds'.1.map fun p : Pr => p.1)) (rowO (ds'.1.map fun p : Pr => p.2)) (rowO (ds'.2.1.map fun p : Pr => p.1)) (rowO (ds'.2.1.map fun p : Pr => p.2)) p5 p6 p7 p8 u5 u6 u7 u8 (rowsOf opC L)) ⟨len47 _, ltq _ _ true (by simpa using hi), idx_slice t47 s24 hi, ld_op hx rfl, q5, wq _ rfl (by omega), w5', wq _ rfl (by omega), nq rfl, nq rfl, kS, kM, kP, kX, kU, sn1, sn2, sn3, sn4, sp1, sp2, sp3, sp4, wq _ rfl (by omega), trivial⟩
  obtain ⟨π0, π4, πi, πn⟩ := pi8_inj (r := r) (r' := r') (N := N) c0 c1 hN'
  have fr3 : ∀ {o : AObj}, o = .dead ∨ Free o → ∀ b, o = .dead ∨ Free o ∨ ∃ c, (c = 0 ∨ c ∈ ft) ∧ pi8 r r' N c = b := fun h b => h.elim .inl (fun h => .inr (.inl h))
  have fr : ∀ {o : AObj}, Free o → ∀ b, o = .dead ∨ Free o ∨ ∃ c, (c = 0 ∨ c ∈ ft) ∧ pi8 r r' N c = b := fun h b => .inr (.inl h)
  have invD' : InvD ds' ⟨lv ds'.1 1, lv ds'.2.1 2, qD ds'.2.2 3, std.oS, std.oT, std.oQ⟩ := ⟨⟨rfl, w1.s.2⟩, ⟨rfl, w1.t.2⟩, ⟨rfl, w1.q.2⟩⟩
  refine ⟨S', T', Q', st', ds', std.oS, std.oT, std.oQ, .agg (opC (op, k, v)), q1, invD', rel', by omega, by omega, by omega, by omega, .inr ⟨_, rfl⟩, canQ q1 invD' (.inr ⟨_, rfl⟩) run (pi8 r r' N) π0 πi πn rfl ?_ ?_ ?_ ?_ ?_ ?_ ?_ ?_
    ⟨fr f8 _, fr f7 _, fr f6 _, fr f5 _, fr (rowO_free _) _, fr (rowO_free _) _, fr (rowO_free _) _, fr (rowO_free _) _, fr w4.fB _, fr w4.fA _, fr q4.fN _, fr hcp _, .inr (.inr ⟨8, by simp, rfl⟩), fr3 w4.f3 _, fr w4.f2 _, fr w4.f1 _, .inr (.inr ⟨4, by simp, π4⟩), fr3 q4.f3 _, fr3 q4.f2 _, fr3 q4.f1 _, .inr (.inr ⟨0, .inl rfl, π0⟩), trivial⟩ rfl (show 9 ≤ 21 by decide) (fun b hb hn => ?_) ?_⟩
  · rcases c0 with rfl | rfl | rfl | rfl <;> first | exact congrArg some (q4.e1 (by decide)) | exact congrArg some (q4.n1 rfl)
  · rcases c0 with rfl | rfl | rfl | rfl <;> first | exact congrArg some (q4.e2 (by decide)) | exact congrArg some (q4.n2 rfl)
  · rcases c0 with rfl | rfl | rfl | rfl <;> first | exact congrArg some (q4.e3 (by decide)) | exact congrArg some (q4.n3 rfl)
  · rw [π4]
    have e : ∀ b, b < 4 → moved r 10 b = pi8 r r' N b := fun b hb => by
      unfold pi8
      rw [if_pos (by omega)]
    show some (AObj.cells false [st'.mS.ren (moved r 10), st'.mT.ren (moved r 10), st'.q.ren (moved r 10)]) = _
    rw [ren_congr (p := fun b => Nat.blt b 4) (π' := pi8 r r' N) (fun b hb => e b (by simpa using hb)) (q1.s.nm (n := 4) (by decide)), ren_congr (p := fun b => Nat.blt b 4) (π' := pi8 r r' N) (fun b hb => e b (by simpa using hb)) (q1.t.nm (n := 4) (by decide)), ren_congr (p := fun b => Nat.blt b 4) (π' := pi8 r r' N) (fun b hb => e b (by simpa using hb)) (q1.q.nm (n := 4) (by decide))]
  · subst hN
    rcases c2 with rfl | rfl <;> rcases c1 with rfl | rfl | rfl | rfl <;> first | exact congrArg some (w4.e1 (by decide)) | exact congrArg some (w4.n1 rfl)
  · subst hN
    rcases c2 with rfl | rfl <;> rcases c1 with rfl | rfl | rfl | rfl <;> first | exact congrArg some (w4.e2 (by decide)) | exact congrArg some (w4.n2 rfl)
  · subst hN
    rcases c2 with rfl | rfl <;> rcases c1 with rfl | rfl | rfl | rfl <;> first | exact congrArg some (w4.e3 (by decide)) | exact congrArg some (w4.n3 rfl)
  · rfl
  · have hb : b < 9 := hb
    have : b = 0 := by
      simp at hn
      omega
    subst this
    rfl
  · rw [π4]
    unfold T8p
    have j1 := t5.na
    have j2 := t6.na
    have j7 := t7.na
    have j8 := t8.na
    repeat (first | exact rfl | refine ⟨_, _, rfl, ?_, ?_⟩ | exact .inr ⟨rfl, rfl⟩ | exact .inl ⟨rfl, rfl⟩ | exact .inl j1 | exact .inl j2 | exact .inl j7 | exact .inl j8 | exact .inl (lv_na _ _) | exact .inl (qD_na _ _) | exact see_same _)
end
end Go.Proofs.Ythooafgfpnedhaa.specsDo.sd
namespace Go.Proofs.Ythooafgfpnedhaa.specsDo.sd
open Go Go.Mini
/-! ### SpecsDo: the loop, the law -/
theorem bs_free {S T : Option (List (Int × Int))} {Q : Option (List Int × Nat)} {st : S3} {ds : DP} {o1 o2 o3 : AObj} (inv : Inv3 S T Q st) (invD : InvD ds ⟨lv ds.1 1, lv ds.2.1 2, qD ds.2.2 3, o1, o2, o3⟩) (row : List AV) :
    ∀ b ∈ ft, ((objAt (canS (bsQ st ds o1 o2 o3) row 9 9) b).rw = true ∨ objAt (canS (bsQ st ds o1 o2 o3) row 9 9) b = .dead) ∧ (objAt (canS (bsQ st ds o1 o2 o3) row 9 9) b).names (fun b => Nat.blt b 9) = true := by
  intro b hb
  have hb : b = 8 ∨ b = 7 ∨ b = 6 ∨ b = 5 ∨ b = 4 ∨ b = 3 ∨ b = 2 ∨ b = 1 := by simpa using hb
  rcases hb with rfl | rfl | rfl | rfl | rfl | rfl | rfl | rfl
  · exact ⟨.inl rfl, and2 (lv_nm _ (by decide)) (and2 (lv_nm _ (by decide)) (and2 (qD_nm _ (by decide)) rfl))⟩
  · exact ⟨.inl invD.q.2.1.1, invD.q.2.1.nm _⟩
  · exact ⟨.inl invD.t.2.1.1, invD.t.2.1.nm _⟩
  · exact ⟨.inl invD.s.2.1.1, invD.s.2.1.nm _⟩
  · exact ⟨.inl rfl, and2 (inv.s.nm (by decide)) (and2 (inv.t.nm (by decide)) (and2 (inv.q.nm (by decide)) rfl))⟩
  · exact ⟨.inl inv.q.fr.1, inv.q.fr.nm _⟩
  · exact ⟨.inl inv.t.fr.1, inv.t.fr.nm _⟩
  · exact ⟨.inl inv.s.fr.1, inv.s.fr.nm _⟩
theorem ln47 (n c : Nat) (s : AS) : (Qst.ln 47 s (.slice 0 0 n c) (.int .i64 (Int.ofNat n))).ok Try.prog := by
  simp only [Qst.ok, lenA, t47]
  rfl
def TZ8 (x33 : AV) : List AV := [uu, uu, .bool true] ++ List.replicate 30 uu ++ [x33] ++ List.replicate 84 uu
theorem rens_TZ {x33 : AV} (h33 : X33 x33) (π : Nat → Nat) : rens π (TZ8 x33) = TZ8 x33 := by
  show [uu, uu, .bool true] ++ rens π (List.replicate 30 uu) ++ [x33.ren π] ++ rens π (List.replicate 84 uu) = _
  rw [h33.ren, rensW, rensW]
  rfl
def st0 : S3 := ⟨.nilMap, .nilMap, .nilSlice, phO, phO, phO⟩
theorem inv0 : Inv3 none none none st0 := ⟨⟨rfl, phFree⟩, ⟨rfl, phFree⟩, ⟨rfl, phFree⟩⟩
theorem invD0 : InvD ([], [], []) ⟨lv ([] : List Pr) 1, lv ([] : List Pr) 2, qD [] 3, phO, phO, phO⟩ := ⟨LO.nil phFree, LO.nil phFree, ⟨rfl, phFree, fun h => absurd rfl h⟩⟩
def piB (b : Nat) : Nat := if b = 4 then 7 else if b = 5 then 4 else if b = 6 then 5 else if b = 7 then 6 else b
def bsB : List (Nat × AObj) := [(8, .cells false [.nilSlice, .nilSlice, .nilSlice]), (7, .cells false [.nilMap, .nilMap, .nilSlice]), (6, phO), (5, phO), (4, phO), (3, phO), (2, phO), (1, phO)]
section
variable {L : List Op3} {n c : Nat}
variable (h1 : n ≤ L.length) (hs : n ≤ 200) (hB : ∀ z ∈ L, z.1 < 256 ∧ WF z.2.1 ∧ WF z.2.2)
include h1 hs hB
theorem d_loop : ∀ (m i : Nat), n - i = m → i ≤ n → ∀ {S T : Option (List (Int × Int))} {Q : Option (List Int × Nat)} {st : S3} {ds : DP} {o1 o2 o3 : AObj} {x33 : AV}, Inv3 S T Q st → InvD ds ⟨lv ds.1 1, lv ds.2.1 2, qD ds.2.2 3, o1, o2, o3⟩ → Rel (rep S T Q) ds → ds.1.length ≤ i → ds.2.1.length ≤ i → ds.2.2.length ≤ i → qlen Q ≤ i → X33 x33 →
    ∃ S' T' Q' st' ds' o1' o2' o3' x33', Inv3 S' T' Q' st' ∧ InvD ds' ⟨lv ds'.1 1, lv ds'.2.1 2, qD ds'.2.2 3, o1', o2', o3'⟩ ∧ X33 x33' ∧
      Go.Mini.Good Try.prog [(0, rowsOf opC L)] (canS (bsQ st ds o1 o2 o3) (rowsOf opC L) 9 9) ft (T8 (.slice 0 0 n c) x33 i) (.loop (loopAt Try.prog 8 0)) (.exit 0) (T8 (.slice 0 0 n c) x33' n) (canS (bsQ st' ds' o1' o2' o3') (rowsOf opC L) 9 9) ft := by
  intro m
  induction m with
  | zero =>
    intro i hm hi S T Q st ds o1 o2 o3 x33 inv invD rel l1 l2 l3 l4 h33
    obtain rfl : i = n := by omega
    have run := runX_sound mixed none_sound (do_end (.slice 0 0 i c) x33 st.mS st.mT st.q .nilMap .nilMap .nilMap (lv ds.1 5) (lv ds.2.1 6) (qD ds.2.2 7) .nilMap .nilMap .nilMap .nilMap .nilMap .nilMap .nilMap .nilMap .nilMap .nilMap .nilMap i i 0 0 0 0 0 0 st.oS st.oT st.oQ o1 o2 o3 .dead .dead .dead .dead .dead .dead .dead .dead .dead .dead .dead .dead .dead .dead .dead .dead .dead .dead .dead .dead .dead (rowsOf opC L)) ⟨ln47 _ _ _, ltq _ _ false (by simp), trivial⟩
    have fr : ∀ {o : AObj}, Free o → ∀ b, o = .dead ∨ Free o ∨ ∃ c, (c = 0 ∨ c ∈ ft) ∧ (fun b : Nat => b) c = b := fun h b => .inr (.inl h)
    refine ⟨S, T, Q, st, ds, o1, o2, o3, x33, inv, invD, h33, Good.loop_stop (canQ inv invD h33 run (fun b => b) rfl (fun b _ c _ h => h) (by decide) rfl rfl rfl rfl (by rw [ren_id, ren_id, ren_id]; rfl) rfl rfl rfl rfl
      ⟨.inr (.inr ⟨8, by simp, rfl⟩), fr invD.q.2.1 _, fr invD.t.2.1 _, fr invD.s.2.1 _, .inr (.inr ⟨4, by simp, rfl⟩), fr inv.q.fr _, fr inv.t.fr _, fr inv.s.fr _, .inr (.inr ⟨0, .inl rfl, rfl⟩), trivial⟩ rfl (show 9 ≤ 9 by decide) (fun b _ _ => rfl) ?_) (by simp)⟩
    unfold T8p
    repeat (first | exact rfl | refine ⟨_, _, rfl, ?_, ?_⟩ | exact .inr ⟨rfl, rfl⟩ | exact .inl ⟨rfl, rfl⟩ | exact see_same _)
  | succ m ih =>
    intro i hm hi S T Q st ds o1 o2 o3 x33 inv invD rel l1 l2 l3 l4 h33
    obtain ⟨S', T', Q', st', ds', o1', o2', o3', x33', a1, a2, a3, a4, a5, a6, a7, a8, g⟩ := d_step (c := c) h1 hs hB inv invD rel (show i < n by omega) l1 l2 l3 l4 h33
    obtain ⟨S2, T2, Q2, st2, ds2, p1, p2, p3, y33, b1, b2, b3, g2⟩ := ih (i + 1) (by omega) (by omega) a1 a2 a3 a4 a5 a6 a7 a8
    exact ⟨S2, T2, Q2, st2, ds2, p1, p2, p3, y33, b1, b2, b3, Good.loop_next (show 0 < 9 by decide) (fun b o h hr => can_rw b o h hr) g g2⟩
theorem d_call : ∃ e s1, Sound Try.prog (.call 8 [.slice 0 0 n c] ⟨⟨[(0, .cells true (rowsOf opC L))], 1, none, []⟩, 1⟩) ⟨e, [.bool true], s1⟩ := by
  obtain ⟨S', T', Q', st', ds', o1', o2', o3', x33', inv, invD, h33, g⟩ := d_loop (c := c) h1 hs hB n 0 rfl (Nat.zero_le _) inv0 invD0 rel0 (Nat.zero_le _) (Nat.zero_le _) (Nat.zero_le _) (Nat.zero_le _) (x33 := undefA) (.inl rfl)
  have ph : Free phO := phFree
  have fr : ∀ {o : AObj}, Free o → ∀ b, o = .dead ∨ Free o ∨ ∃ c, (c = 0 ∨ c ∈ ft) ∧ piB c = b := fun h b => .inr (.inl h)
  have g5 := canQ (C0 := canS bsB (rowsOf opC L) 9 9) (foot0 := ft) (n := n) (c := c) (i := 0) inv0 invD0 (x33 := undefA) (.inl rfl) (runX_sound mixed none_sound (dp4 n c (rowsOf opC L)) trivial) piB rfl (by decide) (by decide) rfl rfl rfl rfl rfl rfl rfl rfl rfl
    ⟨fr ⟨rfl, rfl⟩ _, fr ⟨rfl, rfl⟩ _, fr ph _, fr ph _, fr ph _, fr ph _, fr ph _, fr ph _, .inr (.inr ⟨0, .inl rfl, rfl⟩), trivial⟩ rfl (show 9 ≤ 9 by decide) (fun b hb hn => by
      have hb : b < 9 := hb
      have : b = 0 := by
        simp at hn
        omega
      subst this
      rfl) (by
    unfold T8p
    repeat (first | exact rfl | refine ⟨_, _, rfl, ?_, ?_⟩ | exact .inr ⟨rfl, rfl⟩ | exact .inl ⟨rfl, rfl⟩ | exact see_same _))
  have suf : Sound Try.prog (.code dsuf (T8 (.slice 0 0 n c) x33' n) (canS (bsQ st' ds' o1' o2' o3') (rowsOf opC L) 9 9)) ⟨.ret, TZ8 x33', canS (bsQ st' ds' o1' o2' o3') (rowsOf opC L) 9 9⟩ := by
    refine Sound.sees (runX_sound mixed none_sound (do_suf (.slice 0 0 n c) x33' st'.mS st'.mT st'.q .nilMap .nilMap .nilMap (lv ds'.1 5) (lv ds'.2.1 6) (qD ds'.2.2 7) .nilMap .nilMap .nilMap .nilMap .nilMap .nilMap .nilMap .nilMap .nilMap .nilMap .nilMap n n 0 0 0 0 0 0 st'.oS st'.oT st'.oQ o1' o2' o3' .dead .dead .dead .dead .dead .dead .dead .dead .dead .dead .dead .dead .dead .dead .dead .dead .dead .dead .dead .dead .dead (rowsOf opC L)) ⟨livC _, trivial⟩) ?_
    unfold TZ8
    repeat (first | exact rfl | refine ⟨_, _, rfl, ?_, ?_⟩ | exact .inr ⟨rfl, rfl⟩ | exact .inl ⟨rfl, rfl⟩ | exact see_same _)
  have hn2 : namess (fun b => Nat.blt b 9) (TZ8 x33') = true := by
    unfold TZ8
    simp only [namess, List.replicate, List.cons_append, List.nil_append, h33.nm, AV.names, Bool.and_self]
  obtain ⟨π, s', k1, k2, k3, k4⟩ := Good.seq_last (Good.seq_next (show 0 < 9 by decide) (fun b o h hr => can_rw b o h hr) g5 (Good.block_exit g)) suf (bs_free inv invD _) hn2
  rw [rens_TZ h33] at k1
  have k : Sound Try.prog (.code d0 (.slice 0 0 n c :: List.replicate 117 undefA) ⟨⟨[(6, phO), (5, phO), (4, phO), (3, phO), (2, phO), (1, phO), (0, .cells true (rowsOf opC L))], 7, none, []⟩, 7⟩) ⟨.ret, TZ8 x33', s'⟩ := by
    rw [d0_eq]
    exact seq_next (runX_sound mixed none_sound (dp0 n c (rowsOf opC L)) trivial) (seq_next (runX_sound mixed none_sound (dp1 n c (rowsOf opC L)) ⟨ln47 _ _ _, gtq n 200 false (by simpa using hs), trivial⟩) (seq_next (runX_sound mixed none_sound (dp2 n c (rowsOf opC L)) trivial) (seq_next (runX_sound mixed none_sound (dp3 n c (rowsOf opC L)) trivial) k1)))
  exact ⟨_, _, Sound.phantom phO (Sound.phantom phO (Sound.phantom phO (Sound.phantom phO (Sound.phantom phO (Sound.phantom phO (call_whole (fn := Try.f8) (c := d0) (vs := [.bool true]) Try.func8 (by kernel_rfl) k (.inr rfl) (by kernel_rfl)))))))⟩
end
theorem d_any {L : List Op3} {n c : Nat} (h1 : n ≤ L.length) (hB : ∀ z ∈ L, z.1 < 256 ∧ WF z.2.1 ∧ WF z.2.2) : ∃ e s1, Sound Try.prog (.call 8 [.slice 0 0 n c] ⟨⟨[(0, .cells true (rowsOf opC L))], 1, none, []⟩, 1⟩) ⟨e, [.bool true], s1⟩ := by
  by_cases hs : n ≤ 200
  · exact d_call h1 hs hB
  · exact ⟨_, _, runX_sound mixed none_sound (do_e (.slice 0 0 n c) .nilMap .nilMap .nilMap .nilMap .nilMap .nilMap .nilMap .nilMap .nilMap .nilMap .nilMap .nilMap .nilMap .nilMap .nilMap .nilMap .nilMap .nilMap .nilMap .nilMap .nilMap n 0 0 0 0 0 0 0 .dead .dead .dead .dead .dead .dead .dead .dead .dead .dead .dead .dead .dead .dead .dead .dead .dead .dead .dead .dead .dead .dead .dead .dead .dead .dead .dead (rowsOf opC L)) ⟨ln47 _ _ _, gtq n 200 true (by simp; omega), livC _, trivial⟩⟩
theorem d_nil : ∃ e s1, Sound Try.prog (.call 8 [.nilSlice] ⟨⟨[], 0, none, []⟩, 0⟩) ⟨e, [.bool true], s1⟩ :=
  ⟨_, _, Sound.phantom (.cells true []) (runX_sound mixed none_sound (do_n .nilMap .nilMap .nilMap .nilMap .nilMap .nilMap .nilMap .nilMap .nilMap .nilMap .nilMap .nilMap .nilMap .nilMap .nilMap .nilMap .nilMap .nilMap .nilMap .nilMap .nilMap .nilMap 0 0 0 0 0 0 0 0 .dead .dead .dead .dead .dead .dead .dead .dead .dead .dead .dead .dead .dead .dead .dead .dead .dead .dead .dead .dead .dead .dead .dead .dead .dead .dead .dead []) ⟨livC _, trivial⟩)⟩
theorem rows_op : ∀ (rows : List (List SD)) (s : AS), Tyss rows [.int .u8, .int .u64, .int .u64] → ∃ L : List Op3, absRows rows s = (rowsOf opC L, s) ∧ L.length = rows.length ∧ ∀ z ∈ L, z.1 < 256 ∧ WF z.2.1 ∧ WF z.2.2
  | [], s, _ => ⟨[], rfl, rfl, by simp⟩
  | r :: rs, s, h => by
    obtain ⟨h1, h2⟩ := h
    obtain ⟨L, e1, e2, e3⟩ := rows_op rs s h2
    match r, h1 with
    | [x1, x2, x3], ⟨k1, k2, k3, _⟩ =>
      cases x1 <;> simp only [Ty] at k1
      cases x2 <;> simp only [Ty] at k2
      cases x3 <;> simp only [Ty] at k3
      obtain ⟨rfl, w1⟩ := k1
      obtain ⟨rfl, w2⟩ := k2
      obtain ⟨rfl, w3⟩ := k3
      rename_i n1 n2 n3
      have b1 := bounds_u8 w1
      obtain ⟨op, rfl⟩ : ∃ t : Nat, n1 = Int.ofNat t := ⟨n1.toNat, by simp only [Int.ofNat_eq_natCast]; omega⟩
      have ho : op < 256 := by
        have := b1.2
        simp only [Int.ofNat_eq_natCast] at this
        omega
      refine ⟨(op, n2, n3) :: L, ?_, by simp [e2], fun z hz => ?_⟩
      · have e4 : absCs [.i .u8 (Int.ofNat op), .i .u64 n2, .i .u64 n3] s = (opC (op, n2, n3), s) := by
          simp only [absCs, absC, opC]
        show ((absCs [.i .u8 (Int.ofNat op), .i .u64 n2, .i .u64 n3] s).1 ++ (absRows rs (absCs [.i .u8 (Int.ofNat op), .i .u64 n2, .i .u64 n3] s).2).1, (absRows rs (absCs [.i .u8 (Int.ofNat op), .i .u64 n2, .i .u64 n3] s).2).2) = _
        rw [e4]
        simp only [e1]
        rfl
      · rcases List.mem_cons.1 hz with rfl | hz
        · exact ⟨ho, w2, w3⟩
        · exact e3 z hz
def dpks : List Pk := [⟨false, [.sl [.int .u8, .int .u64, .int .u64]]⟩]
theorem dmain (xs : List (Bool × List SD)) (h : Fits xs dpks) : ∃ e s1, Sound Try.prog (.call 8 (absArgs xs (startS Try.prog [])).1 (absArgs xs (startS Try.prog [])).2) ⟨e, [.bool true], s1⟩ := by
  match xs, h with
  | [(b1, [u1])], ⟨g1, ⟨k1, _⟩, _⟩ =>
    simp only at g1 k1
    subst g1
    have e0 : startS Try.prog [] = ⟨⟨[], 0, none, []⟩, 0⟩ := by
      show (⟨⟨[], 0, none, []⟩, Try.prog.globals.size⟩ : AS) = _
      rw [noG]
    rw [e0]
    cases u1 with
    | nil => exact d_nil
    | sl rows len =>
      simp only [Ty] at k1
      obtain ⟨l1, l2, l3⟩ := k1
      obtain ⟨L, e1, e2, e3⟩ := rows_op rows ⟨⟨[], 0, none, []⟩, 0⟩ l3
      have e5 : absArgs [(false, [.sl rows len])] ⟨⟨[], 0, none, []⟩, 0⟩ = ([.slice 0 0 len rows.length], ⟨⟨[(0, .cells true (rowsOf opC L))], 1, none, []⟩, 1⟩) := by
        simp only [absArgs, absCs, absC, e1]
        rfl
      rw [e5]
      exact d_any (by omega) e3
    | _ => simp only [Ty] at k1
set_option maxRecDepth 100000 in
theorem contract (H : Type) (enc : TypeId × Value → H) (W : World) (base : Nat) (args : Array Value) (ds gs : List (DataW H)) (before : List MemPlace)
    (hval : ∀ (j : Nat) t v, Try.f8.params[j]? = some t → args[j]? = some v → Value.okWide Try.prog W .any base t v)
    (hW : DataW.Whole enc Try.prog Try.f8.params.toList Rows.specsDoSpec.vars false W args.toList ds gs before) (hL : laidMetH Try.prog Rows.specsDoRow.laid W) (hSh : W.ShapedOpen Try.prog) :
    Calls Try.prog 8 args W fun e W' => ∃ v, e = .returned v ∧ Rows.specsDoSpec.post enc Try.prog Try.f8 false true false false W args v W' :=
  law (G := []) (pks := dpks) (tb := 4) (by kernel_rfl) (by kernel_rfl) (by kernel_rfl) (by kernel_rfl) (by kernel_rfl) rfl (by kernel_rfl) (by kernel_rfl) (Nat.le_of_ble_eq_true (by kernel_rfl))
    (fun ds hl => by
      match ds, hl with
      | [d1], _ => rfl) dmain hval hW hL hSh

theorem own : ownKnob Try.prog.godebug = none := by kernel_rfl
noncomputable def laidWorld (os : Os) : World := World.holding Try.prog os ⟨#[], #[], []⟩
def wargs : Array Value := #[.slice none 0 0]
theorem laid_met (os : Os) : laidMet Try.prog Rows.specsDoRow.laid ((laidWorld os).forCall (fun _ _ => 0) ⟨#[], wargs, []⟩).memory :=
  laidMet_of_run' 8 (by kernel_rfl) (by kernel_rfl)
theorem reads (os : Os) {H : Type} (enc : TypeId × Value → H) : ∃ places, DataW.whole enc Try.prog ((laidWorld os).forCall (fun _ _ => 0) ⟨#[], wargs, []⟩).memory Try.f8.params.toList Rows.specsDoSpec.vars false wargs.toList 8 = some ([.nil], [], places) :=
  ⟨[], by kernel_rfl⟩

set_option maxRecDepth 100000 in
theorem lifted (os : Os) (started : os.Started) (H : Type) (enc : TypeId × Value → H) (F : Stop.Interp) :
    ReturnsInHanded {} Try.checked os 8 .any ((OpenSpec.ofChange Rows.specsDoSpec).preRow enc Try.prog Try.f8 Rows.specsDoRow.domain false Rows.specsDoRow.laid) (((OpenSpec.ofChange Rows.specsDoSpec).at F).post enc Try.prog Try.f8 false true false false) := by
  obtain ⟨places, hx⟩ := reads os enc
  refine returnsInHanded_of_row (C := Try.checked) (s := OpenSpec.ofChange Rows.specsDoSpec) own started (by kernel_rfl) Try.func8
    (witness_row_at (enc := enc) (C := Try.checked) false (laidWorld os) wargs rfl (by kernel_rfl) (by kernel_rfl) (by kernel_rfl)
      (OpenSpec.preRow_of_cond 8 hx (by kernel_rfl) (fun k hk => by cases hk) (by kernel_rfl) (laid_met os))) ?_
  intro W base args ds gs before hval hW _ _ _ hL hSh _
  exact contract H enc W base args ds gs before hval hW hL hSh

theorem said : Rows.SpecsDoSaid :=
  OpenClaim.holds_of_cond 8 Try.f8 rfl rfl rfl rfl rfl rfl rfl ⟨rfl, rfl, rfl, rfl, rfl⟩ rfl rfl rfl rfl rfl (by kernel_rfl) Try.func8 (by kernel_rfl)
    (of_decide_eq_true (by kernel_rfl)) (by unfold Func.isWrapper; first | (rw [if_pos (by decide +kernel)]; kernel_rfl) | (rw [if_neg (by decide +kernel)]; exact ⟨rfl, rfl⟩))
    (fun os started H enc _ F => by rw [OpenClaim.pre_eq_preRow]; exact lifted os started H enc F)
end Go.Proofs.Ythooafgfpnedhaa.specsDo.sd
namespace Go.Proofs.Ythooafgfpnedhaa.specsDo
/-- SpecsDo is true of the program. -/
theorem said : Rows.SpecsDoSaid := sd.said
end Go.Proofs.Ythooafgfpnedhaa.specsDo
