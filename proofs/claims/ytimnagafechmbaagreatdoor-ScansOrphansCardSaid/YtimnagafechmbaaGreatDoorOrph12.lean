/- The main loop of the law. Conditions: those that each theorem names, and no others. -/
import Derived.Test.YtimnagafechmbaaGreatDoorOrph10
namespace Go.Proofs.YtimnagafechmbaaGreatDoor.scansOrphans
open Go Go.Mini
/-! ### the law's loop, run in any state -/
def TL (mb : Nat) (l0 : AV) (b n : Nat) (en : AV) (tw i : Nat) (j : Nat → AV) : List AV := [.int .u8 (Int.ofNat mb), l0, j 2, j 3, .bool false, .ptr b 0, j 6, .int .i64 (Int.ofNat n), en, j 9, j 10, j 11, .ptr tw 0, j 13, .int .i64 (Int.ofNat i), j 15, j 16, j 17, j 18, j 19, j 20, j 21, j 22, j 23, j 24, j 25, j 26, j 27, j 28, j 29, j 30, j 31, j 32, j 33, j 34, j 35, j 36, j 37, j 38, j 39, j 40, j 41, j 42, j 43, j 44, j 45, j 46, j 47, j 48, j 49, j 50, j 51, j 52, j 53, j 54, j 55, j 56, j 57, j 58, j 59, j 60, j 61, j 62, j 63, j 64, j 65, j 66, j 67, j 68, j 69, j 70, j 71, j 72, j 73, j 74, j 75, j 76, j 77, j 78, j 79, j 80, j 81, j 82, j 83, j 84, j 85, j 86, j 87, j 88, j 89, j 90, j 91, j 92, j 93, j 94, j 95, j 96, j 97, j 98, j 99, j 100, j 101, j 102, j 103, j 104, j 105, j 106, j 107, j 108, j 109, j 110, j 111, j 112, j 113, j 114, j 115, j 116, j 117, j 118, j 119, j 120, j 121, j 122, j 123, j 124, j 125, j 126, j 127, j 128, j 129, j 130, j 131, j 132, j 133, j 134, j 135, j 136, j 137, j 138, j 139, j 140, j 141]
theorem TL_of {mb : Nat} {l0 : AV} {b n : Nat} {en : AV} {tw i : Nat} {T : List AV} (hl : T.length = 142) (h0 : T[0]? = some (.int .u8 (Int.ofNat mb))) (h1 : T[1]? = some (l0)) (h4 : T[4]? = some (.bool false)) (h5 : T[5]? = some (.ptr b 0)) (h7 : T[7]? = some (.int .i64 (Int.ofNat n))) (h8 : T[8]? = some (en)) (h12 : T[12]? = some (.ptr tw 0)) (h14 : T[14]? = some (.int .i64 (Int.ofNat i))) : T = TL mb l0 b n en tw i (fun k => T.getD k undefA) := by
  have e : ∀ k, k < 142 → T[k]? = some (T.getD k undefA) := fun k hk => by
    rw [List.getD_eq_getElem?_getD, List.getElem?_eq_getElem (by omega)]
    rfl
  refine List.ext_getElem? fun k => ?_
  by_cases hk : k < 142
  · match k, hk with
    | 0, _ => exact h0
    | 1, _ => exact h1
    | 2, _ => exact e 2 (by decide)
    | 3, _ => exact e 3 (by decide)
    | 4, _ => exact h4
    | 5, _ => exact h5
    | 6, _ => exact e 6 (by decide)
    | 7, _ => exact h7
    | 8, _ => exact h8
    | 9, _ => exact e 9 (by decide)
    | 10, _ => exact e 10 (by decide)
    | 11, _ => exact e 11 (by decide)
    | 12, _ => exact h12
    | 13, _ => exact e 13 (by decide)
    | 14, _ => exact h14
    | 15, _ => exact e 15 (by decide)
    | 16, _ => exact e 16 (by decide)
    | 17, _ => exact e 17 (by decide)
    | 18, _ => exact e 18 (by decide)
    | 19, _ => exact e 19 (by decide)
    | 20, _ => exact e 20 (by decide)
    | 21, _ => exact e 21 (by decide)
    | 22, _ => exact e 22 (by decide)
    | 23, _ => exact e 23 (by decide)
    | 24, _ => exact e 24 (by decide)
    | 25, _ => exact e 25 (by decide)
    | 26, _ => exact e 26 (by decide)
    | 27, _ => exact e 27 (by decide)
    | 28, _ => exact e 28 (by decide)
    | 29, _ => exact e 29 (by decide)
    | 30, _ => exact e 30 (by decide)
    | 31, _ => exact e 31 (by decide)
    | 32, _ => exact e 32 (by decide)
    | 33, _ => exact e 33 (by decide)
    | 34, _ => exact e 34 (by decide)
    | 35, _ => exact e 35 (by decide)
    | 36, _ => exact e 36 (by decide)
    | 37, _ => exact e 37 (by decide)
    | 38, _ => exact e 38 (by decide)
    | 39, _ => exact e 39 (by decide)
    | 40, _ => exact e 40 (by decide)
    | 41, _ => exact e 41 (by decide)
    | 42, _ => exact e 42 (by decide)
    | 43, _ => exact e 43 (by decide)
    | 44, _ => exact e 44 (by decide)
    | 45, _ => exact e 45 (by decide)
    | 46, _ => exact e 46 (by decide)
    | 47, _ => exact e 47 (by decide)
    | 48, _ => exact e 48 (by decide)
    | 49, _ => exact e 49 (by decide)
    | 50, _ => exact e 50 (by decide)
    | 51, _ => exact e 51 (by decide)
    | 52, _ => exact e 52 (by decide)
    | 53, _ => exact e 53 (by decide)
    | 54, _ => exact e 54 (by decide)
    | 55, _ => exact e 55 (by decide)
    | 56, _ => exact e 56 (by decide)
    | 57, _ => exact e 57 (by decide)
    | 58, _ => exact e 58 (by decide)
    | 59, _ => exact e 59 (by decide)
    | 60, _ => exact e 60 (by decide)
    | 61, _ => exact e 61 (by decide)
    | 62, _ => exact e 62 (by decide)
    | 63, _ => exact e 63 (by decide)
    | 64, _ => exact e 64 (by decide)
    | 65, _ => exact e 65 (by decide)
    | 66, _ => exact e 66 (by decide)
    | 67, _ => exact e 67 (by decide)
    | 68, _ => exact e 68 (by decide)
    | 69, _ => exact e 69 (by decide)
    | 70, _ => exact e 70 (by decide)
    | 71, _ => exact e 71 (by decide)
    | 72, _ => exact e 72 (by decide)
    | 73, _ => exact e 73 (by decide)
    | 74, _ => exact e 74 (by decide)
    | 75, _ => exact e 75 (by decide)
    | 76, _ => exact e 76 (by decide)
    | 77, _ => exact e 77 (by decide)
    | 78, _ => exact e 78 (by decide)
    | 79, _ => exact e 79 (by decide)
    | 80, _ => exact e 80 (by decide)
    | 81, _ => exact e 81 (by decide)
    | 82, _ => exact e 82 (by decide)
    | 83, _ => exact e 83 (by decide)
    | 84, _ => exact e 84 (by decide)
    | 85, _ => exact e 85 (by decide)
    | 86, _ => exact e 86 (by decide)
    | 87, _ => exact e 87 (by decide)
    | 88, _ => exact e 88 (by decide)
    | 89, _ => exact e 89 (by decide)
    | 90, _ => exact e 90 (by decide)
    | 91, _ => exact e 91 (by decide)
    | 92, _ => exact e 92 (by decide)
    | 93, _ => exact e 93 (by decide)
    | 94, _ => exact e 94 (by decide)
    | 95, _ => exact e 95 (by decide)
    | 96, _ => exact e 96 (by decide)
    | 97, _ => exact e 97 (by decide)
    | 98, _ => exact e 98 (by decide)
    | 99, _ => exact e 99 (by decide)
    | 100, _ => exact e 100 (by decide)
    | 101, _ => exact e 101 (by decide)
    | 102, _ => exact e 102 (by decide)
    | 103, _ => exact e 103 (by decide)
    | 104, _ => exact e 104 (by decide)
    | 105, _ => exact e 105 (by decide)
    | 106, _ => exact e 106 (by decide)
    | 107, _ => exact e 107 (by decide)
    | 108, _ => exact e 108 (by decide)
    | 109, _ => exact e 109 (by decide)
    | 110, _ => exact e 110 (by decide)
    | 111, _ => exact e 111 (by decide)
    | 112, _ => exact e 112 (by decide)
    | 113, _ => exact e 113 (by decide)
    | 114, _ => exact e 114 (by decide)
    | 115, _ => exact e 115 (by decide)
    | 116, _ => exact e 116 (by decide)
    | 117, _ => exact e 117 (by decide)
    | 118, _ => exact e 118 (by decide)
    | 119, _ => exact e 119 (by decide)
    | 120, _ => exact e 120 (by decide)
    | 121, _ => exact e 121 (by decide)
    | 122, _ => exact e 122 (by decide)
    | 123, _ => exact e 123 (by decide)
    | 124, _ => exact e 124 (by decide)
    | 125, _ => exact e 125 (by decide)
    | 126, _ => exact e 126 (by decide)
    | 127, _ => exact e 127 (by decide)
    | 128, _ => exact e 128 (by decide)
    | 129, _ => exact e 129 (by decide)
    | 130, _ => exact e 130 (by decide)
    | 131, _ => exact e 131 (by decide)
    | 132, _ => exact e 132 (by decide)
    | 133, _ => exact e 133 (by decide)
    | 134, _ => exact e 134 (by decide)
    | 135, _ => exact e 135 (by decide)
    | 136, _ => exact e 136 (by decide)
    | 137, _ => exact e 137 (by decide)
    | 138, _ => exact e 138 (by decide)
    | 139, _ => exact e 139 (by decide)
    | 140, _ => exact e 140 (by decide)
    | 141, _ => exact e 141 (by decide)
    | k + 142, h => exact absurd h (by omega)
  · rw [List.getElem?_eq_none (by omega), List.getElem?_eq_none (show 142 ≤ k by omega)]
theorem getD_junk {T : List AV} (h : T.all junkable = true) (k : Nat) : junkable (T.getD k undefA) = true := by
  rw [List.getD_eq_getElem?_getD]
  cases e : T[k]? with
  | none => rfl
  | some y => exact List.all_eq_true.1 h y (List.mem_of_getElem? e)
theorem toTL {c : Code} {ts T : List AV} {e : AExit} {s s' : AS} {mb : Nat} {l0 : AV} {b n : Nat} {en : AV} {tw i : Nat} (h : Sound Tryz.prog (.code c ts s) ⟨e, T, s'⟩) (hl : T.length = 142) (h0 : T[0]? = some (.int .u8 (Int.ofNat mb))) (h1 : T[1]? = some (l0)) (h4 : T[4]? = some (.bool false)) (h5 : T[5]? = some (.ptr b 0)) (h7 : T[7]? = some (.int .i64 (Int.ofNat n))) (h8 : T[8]? = some (en)) (h12 : T[12]? = some (.ptr tw 0)) (h14 : T[14]? = some (.int .i64 (Int.ofNat i))) : ∃ j, (T.all junkable = true → ∀ k, junkable (j k) = true) ∧ Sound Tryz.prog (.code c ts s) ⟨e, TL mb l0 b n en tw i j, s'⟩ :=
  ⟨_, fun hj k => getD_junk hj k, TL_of hl h0 h1 h4 h5 h7 h8 h12 h14 ▸ h⟩
theorem lp_end (s : AS) (mb b n tw i : Nat) (l0 en : AV) (j : Nat → AV) (ln lt _ _ _ _ _ _ : Nat) (_ : AS → AS) : runX Tryz.prog none_ 90 3 (.code (loopAt Tryz.prog 3 2) (TL mb l0 b n en tw i j) s) [.val 3 21 2 (.int .i64 (Int.ofNat ln)), .val 3 21 3 (.int .i64 (Int.ofNat lt)), .val 3 21 4 (.bool false)] = some ({ e := AExit.exit 4, ts := [AV.int IntKind.u8 (Int.ofNat mb), l0, j 2, j 3, AV.bool false, AV.ptr b 0, j 6, AV.int IntKind.i64 (Int.ofNat n), en, j 9, j 10, j 11, AV.ptr tw 0, j 13, AV.int IntKind.i64 (Int.ofNat i), j 15, j 16, j 17, j 18, j 19, j 20, j 21, j 22, j 23, j 24, j 25, j 26, j 27, j 28, j 29, j 30, j 31, j 32, j 33, j 34, j 35, j 36, j 37, j 38, j 39, j 40, j 41, j 42, j 43, j 44, j 45, j 46, j 47, j 48, j 49, j 50, j 51, j 52, j 53, j 54, j 55, j 56, j 57, j 58, j 59, j 60, j 61, j 62, j 63, j 64, j 65, j 66, j 67, j 68, j 69, j 70, j 71, j 72, AV.int IntKind.i64 (Int.ofNat i), l0, AV.int IntKind.i64 (Int.ofNat ln), AV.int IntKind.i64 (Int.ofNat lt), AV.bool false, j 78, j 79, j 80, j 81, j 82, j 83, j 84, j 85, j 86, j 87, j 88, j 89, j 90, j 91, j 92, j 93, j 94, j 95, j 96, j 97, j 98, j 99, j 100, j 101, j 102, j 103, j 104, j 105, j 106, j 107, j 108, j 109, j 110, j 111, j 112, j 113, j 114, j 115, j 116, j 117, j 118, j 119, j 120, j 121, j 122, j 123, j 124, j 125, j 126, j 127, j 128, j 129, j 130, j 131, j 132, j 133, j 134, j 135, j 136, j 137, j 138, j 139, j 140, j 141], s := s }, [], [Qst.ln 22 s l0 (AV.int IntKind.i64 (Int.ofNat ln)), Qst.val (some (AV.int IntKind.i64 (IntKind.i64.wrap (Int.ofNat (ln + 4000))))) (AV.int IntKind.i64 (Int.ofNat lt)), Qst.val (some (AV.bool (decide (Int.ofNat i < Int.ofNat lt)))) (AV.bool false)]) := by kernel_rfl
theorem lp_a (s : AS) (mb b n tw i : Nat) (l0 en : AV) (j : Nat → AV) (ln lt k0 p y kk o i1 : Nat) (tf : AS → AS) : runX Tryz.prog none_ 90 3 (.code (loopAt Tryz.prog 3 2) (TL mb l0 b n en tw i j) s) [.val 3 21 2 (.int .i64 (Int.ofNat ln)), .val 3 21 3 (.int .i64 (Int.ofNat lt)), .val 3 21 4 (.bool true), .val 3 23 1 (.int .i64 (Int.ofNat k0)), .val 3 24 2 (.int .i64 (Int.ofNat ln)), .val 3 24 3 (.bool true), .val 3 25 2 (.ptr 2 p), .val 3 25 3 (.int .u8 (Int.ofNat y)), .val 3 25 4 (.int .u8 (Int.ofNat kk)), .val 3 25 5 (.int .i64 (Int.ofNat kk)), .val 3 26 1 (.ptr tw o), .call 3 26 3 (.tuple []) tf, .val 3 22 1 (.int .i64 (Int.ofNat i1))] = some ({ e := AExit.normal, ts := [AV.int IntKind.u8 (Int.ofNat mb), l0, j 2, j 3, AV.bool false, AV.ptr b 0, j 6, AV.int IntKind.i64 (Int.ofNat n), en, j 9, j 10, j 11, AV.ptr tw 0, j 13, AV.int IntKind.i64 (Int.ofNat i1), AV.int IntKind.i64 (Int.ofNat kk), j 16, j 17, j 18, j 19, j 20, j 21, j 22, j 23, j 24, j 25, j 26, j 27, j 28, j 29, j 30, j 31, j 32, j 33, j 34, j 35, j 36, j 37, j 38, j 39, j 40, j 41, j 42, j 43, j 44, j 45, j 46, j 47, j 48, j 49, j 50, j 51, j 52, j 53, j 54, j 55, j 56, j 57, j 58, j 59, j 60, j 61, j 62, j 63, j 64, j 65, j 66, j 67, j 68, j 69, j 70, j 71, j 72, AV.int IntKind.i64 (Int.ofNat i), l0, AV.int IntKind.i64 (Int.ofNat ln), AV.int IntKind.i64 (Int.ofNat lt), AV.bool true, AV.int IntKind.i64 (Int.ofNat i), AV.int IntKind.i64 (Int.ofNat i1), AV.int IntKind.i64 (Int.ofNat i), AV.int IntKind.i64 (Int.ofNat k0), AV.int IntKind.i64 (Int.ofNat i), l0, AV.int IntKind.i64 (Int.ofNat ln), AV.bool true, l0, AV.int IntKind.i64 (Int.ofNat i), AV.ptr 2 p, AV.int IntKind.u8 (Int.ofNat y), AV.int IntKind.u8 (Int.ofNat kk), AV.int IntKind.i64 (Int.ofNat kk), AV.int IntKind.i64 (Int.ofNat kk), AV.ptr tw o, AV.ptr b 0, AV.tuple [], j 96, j 97, j 98, j 99, j 100, j 101, j 102, j 103, j 104, j 105, j 106, j 107, j 108, j 109, j 110, j 111, j 112, j 113, j 114, j 115, j 116, j 117, j 118, j 119, j 120, j 121, j 122, j 123, j 124, j 125, j 126, j 127, j 128, j 129, j 130, j 131, j 132, j 133, j 134, j 135, j 136, j 137, j 138, j 139, j 140, j 141], s := tf s }, [], [Qst.ln 22 s l0 (AV.int IntKind.i64 (Int.ofNat ln)), Qst.val (some (AV.int IntKind.i64 (IntKind.i64.wrap (Int.ofNat (ln + 4000))))) (AV.int IntKind.i64 (Int.ofNat lt)), Qst.val (some (AV.bool (decide (Int.ofNat i < Int.ofNat lt)))) (AV.bool true), Qst.val (some (AV.int IntKind.i64 (Int.ofNat (i % 2)))) (AV.int IntKind.i64 (Int.ofNat k0)), Qst.ln 22 s l0 (AV.int IntKind.i64 (Int.ofNat ln)), Qst.val (some (AV.bool (decide (Int.ofNat i < Int.ofNat ln)))) (AV.bool true), Qst.idx 22 l0 (AV.int IntKind.i64 (Int.ofNat i)) (AV.ptr 2 p), Qst.ld 5 s (AV.ptr 2 p) (AV.int IntKind.u8 (Int.ofNat y)), Qst.val (some (AV.int IntKind.u8 (Int.ofNat (y % 2)))) (AV.int IntKind.u8 (Int.ofNat kk)), Qst.val (some (AV.int IntKind.i64 (IntKind.i64.wrap (Int.ofNat kk)))) (AV.int IntKind.i64 (Int.ofNat kk)), Qst.idx 52 (AV.ptr tw 0) (AV.int IntKind.i64 (Int.ofNat kk)) (AV.ptr tw o), Qst.snd (Task.call 13 [AV.ptr tw o, AV.ptr b 0] s) { e := AExit.ret, ts := [AV.tuple []], s := tf s }, Qst.val (some (AV.int IntKind.i64 (IntKind.i64.wrap (Int.ofNat (i + 1))))) (AV.int IntKind.i64 (Int.ofNat i1))]) := by kernel_rfl
theorem lp_b (s : AS) (mb b n tw i : Nat) (l0 en : AV) (j : Nat → AV) (ln lt k0 _ _ _ o i1 : Nat) (tf : AS → AS) : runX Tryz.prog none_ 90 3 (.code (loopAt Tryz.prog 3 2) (TL mb l0 b n en tw i j) s) [.val 3 21 2 (.int .i64 (Int.ofNat ln)), .val 3 21 3 (.int .i64 (Int.ofNat lt)), .val 3 21 4 (.bool true), .val 3 23 1 (.int .i64 (Int.ofNat k0)), .val 3 24 2 (.int .i64 (Int.ofNat ln)), .val 3 24 3 (.bool false), .val 3 26 1 (.ptr tw o), .call 3 26 3 (.tuple []) tf, .val 3 22 1 (.int .i64 (Int.ofNat i1))] = some ({ e := AExit.normal, ts := [AV.int IntKind.u8 (Int.ofNat mb), l0, j 2, j 3, AV.bool false, AV.ptr b 0, j 6, AV.int IntKind.i64 (Int.ofNat n), en, j 9, j 10, j 11, AV.ptr tw 0, j 13, AV.int IntKind.i64 (Int.ofNat i1), AV.int IntKind.i64 (Int.ofNat k0), j 16, j 17, j 18, j 19, j 20, j 21, j 22, j 23, j 24, j 25, j 26, j 27, j 28, j 29, j 30, j 31, j 32, j 33, j 34, j 35, j 36, j 37, j 38, j 39, j 40, j 41, j 42, j 43, j 44, j 45, j 46, j 47, j 48, j 49, j 50, j 51, j 52, j 53, j 54, j 55, j 56, j 57, j 58, j 59, j 60, j 61, j 62, j 63, j 64, j 65, j 66, j 67, j 68, j 69, j 70, j 71, j 72, AV.int IntKind.i64 (Int.ofNat i), l0, AV.int IntKind.i64 (Int.ofNat ln), AV.int IntKind.i64 (Int.ofNat lt), AV.bool true, AV.int IntKind.i64 (Int.ofNat i), AV.int IntKind.i64 (Int.ofNat i1), AV.int IntKind.i64 (Int.ofNat i), AV.int IntKind.i64 (Int.ofNat k0), AV.int IntKind.i64 (Int.ofNat i), l0, AV.int IntKind.i64 (Int.ofNat ln), AV.bool false, j 86, j 87, j 88, j 89, j 90, j 91, AV.int IntKind.i64 (Int.ofNat k0), AV.ptr tw o, AV.ptr b 0, AV.tuple [], j 96, j 97, j 98, j 99, j 100, j 101, j 102, j 103, j 104, j 105, j 106, j 107, j 108, j 109, j 110, j 111, j 112, j 113, j 114, j 115, j 116, j 117, j 118, j 119, j 120, j 121, j 122, j 123, j 124, j 125, j 126, j 127, j 128, j 129, j 130, j 131, j 132, j 133, j 134, j 135, j 136, j 137, j 138, j 139, j 140, j 141], s := tf s }, [], [Qst.ln 22 s l0 (AV.int IntKind.i64 (Int.ofNat ln)), Qst.val (some (AV.int IntKind.i64 (IntKind.i64.wrap (Int.ofNat (ln + 4000))))) (AV.int IntKind.i64 (Int.ofNat lt)), Qst.val (some (AV.bool (decide (Int.ofNat i < Int.ofNat lt)))) (AV.bool true), Qst.val (some (AV.int IntKind.i64 (Int.ofNat (i % 2)))) (AV.int IntKind.i64 (Int.ofNat k0)), Qst.ln 22 s l0 (AV.int IntKind.i64 (Int.ofNat ln)), Qst.val (some (AV.bool (decide (Int.ofNat i < Int.ofNat ln)))) (AV.bool false), Qst.idx 52 (AV.ptr tw 0) (AV.int IntKind.i64 (Int.ofNat k0)) (AV.ptr tw o), Qst.snd (Task.call 13 [AV.ptr tw o, AV.ptr b 0] s) { e := AExit.ret, ts := [AV.tuple []], s := tf s }, Qst.val (some (AV.int IntKind.i64 (IntKind.i64.wrap (Int.ofNat (i + 1))))) (AV.int IntKind.i64 (Int.ofNat i1))]) := by kernel_rfl
end Go.Proofs.YtimnagafechmbaaGreatDoor.scansOrphans
namespace Go.Proofs.YtimnagafechmbaaGreatDoor.scansOrphans
open Go Go.Mini
/-! ### the law's loop: both takers come to an end -/
theorem all_cons' {a : AV} {l : List AV} (h1 : junkable a = true) (h2 : l.all junkable = true) : (a :: l).all junkable = true := by
  rw [List.all_cons, h1, h2]
  rfl
theorem mu_le (n hw : Nat) (M : PM) (l : LS) : mu n hw M l ≤ 400 := by
  cases l <;> simp only [mu] <;> first | omega | (split <;> omega)
theorem mu_zero {n hw : Nat} {M : PM} {l : LS} (ok : okL n hw M l) (h : mu n hw M l = 0) : ∃ m, l = .dn m := by
  cases l with
  | dn m => exact ⟨m, rfl⟩
  | a3 m e i =>
    have : i < 4 := ok.2
    simp only [mu] at h
    omega
  | k2 m j =>
    have : j < 40 := ok.2
    simp only [mu] at h
    omega
  | t1 hd =>
    simp only [mu] at h
    split at h <;> omega
  | t2 hd =>
    simp only [mu] at h
    split at h <;> omega
  | _ =>
    simp only [mu] at h
    omega
def mm (n hw : Nat) (M : PM) (l o : LS) (k : Bool) : Nat := mu n hw M (bif k then o else l)
theorem turn {n hw : Nat} {l o : LS} {M : PM} {s : AS} {b tw : Nat} {Ks : List Nat} {π π2 : Nat → Nat} (h : TwoP n hw false l o M s b tw Ks π π2) (g : GI n hw l o M) (k : Bool) :
    ∃ l' o' M' s' π' π2', Sound Tryz.prog (.call 13 [.ptr tw (bif k then 3 else 0), .ptr b 0] s) ⟨.ret, [.tuple []], s'⟩ ∧ TwoP n hw false l' o' M' s' b tw Ks π' π2' ∧ GI n hw l' o' M' ∧ (mm n hw M' l' o' k < mm n hw M l o k ∨ mm n hw M' l' o' k = 0) ∧ mm n hw M' l' o' (!k) ≤ mm n hw M l o (!k) ∧ ∀ c ∈ Ks, s'.get c = s.get c := by
  cases k with
  | false =>
    obtain ⟨l2, M2, x⟩ := g.go
    obtain ⟨κ, k1, k2, k3⟩ := nx_step false (sc o) x
    obtain ⟨s', π', π2', h1, h2, h3, _⟩ := h.step k1 k2 k3
    obtain ⟨g2, d1, d2⟩ := g.next x
    refine ⟨l2, o, M2, s', π', π2', h1, h2, g2, ?_, d2, h3⟩
    rcases d1 with d1 | ⟨m, _, rfl⟩
    · exact .inl d1
    · exact .inr rfl
  | true =>
    obtain ⟨o2, M2, x⟩ := g.symm.go
    obtain ⟨κ, k1, k2, k3⟩ := nx_step true (sc l) x
    obtain ⟨s', π', π2', h1, h2, h3, _⟩ := h.symm.step k1 k2 k3
    obtain ⟨g2, d1, d2⟩ := g.symm.next x
    refine ⟨l, o2, M2, s', π2', π', h1, h2.symm, g2.symm, ?_, d2, h3⟩
    rcases d1 with d1 | ⟨m, _, rfl⟩
    · exact .inl d1
    · exact .inr rfl
def kN (k : Bool) : Nat := bif k then 1 else 0
def DD (ln i : Nat) (k : Bool) : Nat := if i ≤ ln then 0 else (i - ln + (if ln % 2 = kN k then 1 else 0)) / 2
/-- What is said of the law's bytes. -/
structure RwC (l : AV) (F : List AV) (bs : List Nat) : Prop where
  len : ∀ s, lenA Tryz.prog s 22 l = some (.int .i64 (Int.ofNat bs.length))
  idx : ∀ i, i < bs.length → indexAddrA Tryz.prog 22 l (.int .i64 (Int.ofNat i)) = some (.ptr 2 i)
  row : ∃ r : List Nat, F = (bs ++ r).map fun n => AV.int .u8 (Int.ofNat n)
  lt : ∀ x ∈ bs, x < 256
theorem RwC.ld {l : AV} {F : List AV} {bs : List Nat} (h : RwC l F bs) {i : Nat} (hi : i < bs.length) {s : AS} {ro : Bool} (hs : s.get 2 = some (.cells ro F)) : loadA Tryz.prog s 5 (.ptr 2 i) = some (.int .u8 (Int.ofNat bs[i])) := by
  obtain ⟨r, e⟩ := h.row
  refine ld_cell (by kernel_rfl) hs ?_
  rw [e, List.getElem?_map, List.getElem?_append_left hi, List.getElem?_eq_getElem hi]
  rfl
theorem idx0 (tw : Nat) : indexAddrA Tryz.prog 52 (.ptr tw 0) (.int .i64 (Int.ofNat 0)) = some (.ptr tw 0) := by kernel_rfl
theorem idx1 (tw : Nat) : indexAddrA Tryz.prog 52 (.ptr tw 0) (.int .i64 (Int.ofNat 1)) = some (.ptr tw 3) := by kernel_rfl
theorem idxk (tw : Nat) (k : Bool) : indexAddrA Tryz.prog 52 (.ptr tw 0) (.int .i64 (Int.ofNat (kN k))) = some (.ptr tw (bif k then 3 else 0)) := by
  cases k
  · exact idx0 tw
  · exact idx1 tw
theorem bit_of {x : Nat} (h : x < 2) : ∃ k, x = kN k := by
  match x, h with
  | 0, _ => exact ⟨false, rfl⟩
  | 1, _ => exact ⟨true, rfl⟩
theorem w64 {a : Nat} (h : a < 1000000) : IntKind.i64.wrap (Int.ofNat a) = Int.ofNat a := wrap64 (by simp only [Int.ofNat_eq_natCast]; omega) (by simp only [Int.ofNat_eq_natCast]; omega)
theorem law_loop {n hw mb b tw : Nat} {l0 en : AV} {F : List AV} {bs : List Nat} {Ks : List Nat} (W : RwC l0 F bs) (hl0 : junkable l0 = true) (hen : junkable en = true) (h5 : bs.length ≤ 500) (h2 : 2 ∈ Ks) : ∀ (d i : Nat) (l o : LS) (M : PM) (s : AS) (π π2 : Nat → Nat) (j : Nat → AV), (∀ k, junkable (j k) = true) → bs.length + 4000 - i = d → i ≤ bs.length + 4000 → TwoP n hw false l o M s b tw Ks π π2 → GI n hw l o M → (∃ ro, s.get 2 = some (.cells ro F)) →
    (∀ k, mm n hw M l o k = 0 ∨ mm n hw M l o k + DD bs.length i k ≤ 400) →
    ∃ m1 m2 M' s' π' π2' j', (∀ k, junkable (j' k) = true) ∧ Sound Tryz.prog (.code (.loop (loopAt Tryz.prog 3 2)) (TL mb l0 b n en tw i j) s) ⟨.exit 4, TL mb l0 b n en tw (bs.length + 4000) j', s'⟩ ∧ TwoP n hw false (.dn m1) (.dn m2) M' s' b tw Ks π' π2' ∧ GI n hw (.dn m1) (.dn m2) M' ∧ ∀ c ∈ Ks, s'.get c = s.get c := by
  intro d
  induction d with
  | zero =>
    intro i l o M s π π2 j hj hd hi hT hG hr hm
    obtain rfl : i = bs.length + 4000 := by omega
    have z : ∀ k, mm n hw M l o k = 0 := fun k => by
      rcases hm k with h | h
      · exact h
      · unfold DD at h
        rw [if_neg (by omega)] at h
        omega
    obtain ⟨m1, rfl⟩ := mu_zero hG.okl (z false)
    obtain ⟨m2, rfl⟩ := mu_zero hG.oko (z true)
    have hs := runX_sound mixed none_sound (lp_end s mb b n tw (bs.length + 4000) l0 en j bs.length (bs.length + 4000) 0 0 0 0 0 0 id) ⟨W.len s, by rw [Qst.ok, w64 (by omega)], by simp [Qst.ok], trivial⟩
    obtain ⟨j', hj', hs'⟩ := toTL (mb := mb) (l0 := l0) (b := b) (n := n) (en := en) (tw := tw) (i := bs.length + 4000) hs rfl rfl rfl rfl rfl rfl rfl rfl rfl
    exact ⟨m1, m2, M, s, π, π2, j', hj' (by
      repeat (first | exact hj _ | exact hl0 | exact hen | refine all_cons' ?_ ?_ | exact rfl)), loop_stop hs' (by simp), hT, hG, fun _ _ => rfl⟩
  | succ d ih =>
    intro i l o M s π π2 j hj hd hi hT hG hr hm
    have hlt : i < bs.length + 4000 := by omega
    obtain ⟨ro, hr⟩ := hr
    -- whose turn it is
    have go : ∀ k : Bool, (bs.length ≤ i → i % 2 = kN k) → (∀ s' : AS, Sound Tryz.prog (.call 13 [.ptr tw (bif k then 3 else 0), .ptr b 0] s) ⟨.ret, [.tuple []], s'⟩ → ∃ j', (∀ k, junkable (j' k) = true) ∧ Sound Tryz.prog (.code (loopAt Tryz.prog 3 2) (TL mb l0 b n en tw i j) s) ⟨.normal, TL mb l0 b n en tw (i + 1) j', s'⟩) →
        ∃ m1 m2 M' s' π' π2' j', (∀ k, junkable (j' k) = true) ∧ Sound Tryz.prog (.code (.loop (loopAt Tryz.prog 3 2)) (TL mb l0 b n en tw i j) s) ⟨.exit 4, TL mb l0 b n en tw (bs.length + 4000) j', s'⟩ ∧ TwoP n hw false (.dn m1) (.dn m2) M' s' b tw Ks π' π2' ∧ GI n hw (.dn m1) (.dn m2) M' ∧ ∀ c ∈ Ks, s'.get c = s.get c := fun k hk hb => by
      obtain ⟨l', o', M', s', π', π2', t1, t2, t3, t4, t5, t6⟩ := turn hT hG k
      obtain ⟨j', hj', h1⟩ := hb s' t1
      have hle : ∀ q, mm n hw M' l' o' q ≤ 400 := fun q => mu_le _ _ _ _
      have hm' : ∀ q, mm n hw M' l' o' q = 0 ∨ mm n hw M' l' o' q + DD bs.length (i + 1) q ≤ 400 := fun q => by
        by_cases hq : i + 1 ≤ bs.length
        · refine .inr ?_
          unfold DD
          rw [if_pos hq]
          exact hle q
        · have hge : bs.length ≤ i := by omega
          have hk := hk hge
          have hmq := hm q
          have dd : DD bs.length (i + 1) q = (i + 1 - bs.length + (if bs.length % 2 = kN q then 1 else 0)) / 2 := if_neg hq
          have d0 : DD bs.length i q = (i - bs.length + (if bs.length % 2 = kN q then 1 else 0)) / 2 := by
            unfold DD
            split
            · have : i = bs.length := by omega
              subst this
              split <;> omega
            · rfl
          rw [dd]
          rw [d0] at hmq
          have hk2 : kN k < 2 := by cases k <;> decide
          have hq2 : kN q < 2 := by cases q <;> decide
          by_cases e : q = k
          · subst e
            rcases t4 with t4 | t4
            · refine .inr ?_
              rcases hmq with h | h
              · omega
              · omega
            · exact .inl t4
          · have e2 : q = !k := by cases q <;> cases k <;> first | rfl | exact absurd rfl e
            have hne : kN q ≠ kN k := by rw [e2]; cases k <;> decide
            rw [← e2] at t5
            rcases hmq with h | h
            · exact .inl (by omega)
            · refine .inr ?_
              have : (i + 1 - bs.length + (if bs.length % 2 = kN q then 1 else 0)) / 2 = (i - bs.length + (if bs.length % 2 = kN q then 1 else 0)) / 2 := by
                split <;> omega
              omega
      obtain ⟨m1, m2, M2, s2, p1, p2, j2, rj, r1, r2, r3, r4⟩ := ih (i + 1) l' o' M' s' π' π2' j' hj' (by omega) (by omega) t2 t3 ⟨ro, by rw [t6 2 h2]; exact hr⟩ hm'
      exact ⟨m1, m2, M2, s2, p1, p2, j2, rj, loop_next h1 r1, r2, r3, fun c hc => by rw [r4 c hc, t6 c hc]⟩
    by_cases hil : i < bs.length
    · have hy : bs[i] < 256 := W.lt _ (List.getElem_mem hil)
      obtain ⟨k, ek⟩ := bit_of (x := bs[i] % 2) (Nat.mod_lt _ (by omega))
      refine go k (fun h => by omega) fun s' hs => ?_
      have hr2 := runX_sound mixed none_sound (lp_a s mb b n tw i l0 en j bs.length (bs.length + 4000) (i % 2) i bs[i] (kN k) (bif k then 3 else 0) (i + 1) (fun _ => s'))
        ⟨W.len s, by rw [Qst.ok, w64 (by omega)], by simp [Qst.ok]; omega, rfl, W.len s, by simp [Qst.ok]; omega, W.idx i hil, W.ld hil hr, by rw [Qst.ok, ek], by rw [Qst.ok, w64 (by cases k <;> decide)], idxk tw k, hs, by rw [Qst.ok, w64 (by omega)], trivial⟩
      obtain ⟨j', hj', hs'⟩ := toTL (mb := mb) (l0 := l0) (b := b) (n := n) (en := en) (tw := tw) (i := i + 1) hr2 rfl rfl rfl rfl rfl rfl rfl rfl rfl
      exact ⟨j', hj' (by
      repeat (first | exact hj _ | exact hl0 | exact hen | refine all_cons' ?_ ?_ | exact rfl)), hs'⟩
    · obtain ⟨k, ek⟩ := bit_of (x := i % 2) (Nat.mod_lt _ (by omega))
      refine go k (fun _ => ek) fun s' hs => ?_
      have hr2 := runX_sound mixed none_sound (lp_b s mb b n tw i l0 en j bs.length (bs.length + 4000) (kN k) 0 0 0 (bif k then 3 else 0) (i + 1) (fun _ => s'))
        ⟨W.len s, by rw [Qst.ok, w64 (by omega)], by simp [Qst.ok]; omega, by rw [Qst.ok, ek], W.len s, by simp [Qst.ok]; omega, idxk tw k, hs, by rw [Qst.ok, w64 (by omega)], trivial⟩
      obtain ⟨j', hj', hs'⟩ := toTL (mb := mb) (l0 := l0) (b := b) (n := n) (en := en) (tw := tw) (i := i + 1) hr2 rfl rfl rfl rfl rfl rfl rfl rfl rfl
      exact ⟨j', hj' (by
      repeat (first | exact hj _ | exact hl0 | exact hen | refine all_cons' ?_ ?_ | exact rfl)), hs'⟩
end Go.Proofs.YtimnagafechmbaaGreatDoor.scansOrphans
