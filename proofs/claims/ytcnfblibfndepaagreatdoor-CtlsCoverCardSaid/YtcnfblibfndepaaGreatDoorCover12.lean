/- The main loop of the law. Conditions: those that each theorem names, and no others. -/
import Derived.Test.YtcnfblibfndepaaGreatDoorCover11
namespace Go.Proofs.YtcnfblibfndepaaGreatDoor.ctlsCover
open Go Go.Mini
/-! ### the law's loop, run in any state -/
def TL (zb b sa : Nat) (l xv : AV) (to many i : Nat) (j : Nat → AV) : List AV := [j 0, .ptr zb 0, .bool false, .ptr b 0, .ptr sa 0, l, j 6, xv, .int .u8 (Int.ofNat to), .int .i64 (Int.ofNat many), .int .i64 (Int.ofNat i), j 11, j 12, j 13, j 14, j 15, j 16, j 17, j 18, j 19, j 20, j 21, j 22, j 23, j 24, j 25, j 26, j 27, j 28, j 29, j 30, j 31, j 32, j 33, j 34, j 35, j 36, j 37, j 38, j 39, j 40, j 41, j 42, j 43, j 44, j 45, j 46, j 47, j 48, j 49, j 50, j 51, j 52, j 53, j 54, j 55, j 56, j 57, j 58, j 59, j 60, j 61, j 62, j 63, j 64, j 65, j 66, j 67, j 68, j 69, j 70, j 71, j 72, j 73, j 74, j 75, j 76, j 77, j 78, j 79, j 80, j 81, j 82, j 83, j 84, j 85, j 86, j 87, j 88, j 89, j 90, j 91, j 92, j 93, j 94, j 95, j 96, j 97, j 98, j 99, j 100, j 101, j 102, j 103, j 104, j 105, j 106, j 107, j 108, j 109, j 110, j 111, j 112, j 113, j 114, j 115, j 116, j 117, j 118, j 119, j 120, j 121, j 122, j 123]
theorem TL_of {zb b sa : Nat} {l xv : AV} {to many i : Nat} {T : List AV} (hl : T.length = 124) (h1 : T[1]? = some (.ptr zb 0)) (h2 : T[2]? = some (.bool false)) (h3 : T[3]? = some (.ptr b 0)) (h4 : T[4]? = some (.ptr sa 0)) (h5 : T[5]? = some (l)) (h7 : T[7]? = some (xv)) (h8 : T[8]? = some (.int .u8 (Int.ofNat to))) (h9 : T[9]? = some (.int .i64 (Int.ofNat many))) (h10 : T[10]? = some (.int .i64 (Int.ofNat i))) : T = TL zb b sa l xv to many i (fun k => T.getD k undefA) := by
  have e : ∀ k, k < 124 → T[k]? = some (T.getD k undefA) := fun k hk => by
    rw [List.getD_eq_getElem?_getD, List.getElem?_eq_getElem (by omega)]
    rfl
  refine List.ext_getElem? fun k => ?_
  by_cases hk : k < 124
  · match k, hk with
    | 0, _ => exact e 0 (by decide)
    | 1, _ => exact h1
    | 2, _ => exact h2
    | 3, _ => exact h3
    | 4, _ => exact h4
    | 5, _ => exact h5
    | 6, _ => exact e 6 (by decide)
    | 7, _ => exact h7
    | 8, _ => exact h8
    | 9, _ => exact h9
    | 10, _ => exact h10
    | 11, _ => exact e 11 (by decide)
    | 12, _ => exact e 12 (by decide)
    | 13, _ => exact e 13 (by decide)
    | 14, _ => exact e 14 (by decide)
    | 15, _ => exact e 15 (by decide)
    | 16, _ => exact e 16 (by decide)
    | 17, _ => exact e 17 (by decide)
    | 18, _ => exact e 18 (by decide)
    | 19, _ => exact e 19 (by decide)
    | 20, _ => exact e 20 (by decide)
    | 21, _ => exact e 21 (by decide)
    | 22, _ => exact e 22 (by decide)
    | 23, _ => exact e 23 (by decide)
    | 24, _ => exact e 24 (by decide)
    | 25, _ => exact e 25 (by decide)
    | 26, _ => exact e 26 (by decide)
    | 27, _ => exact e 27 (by decide)
    | 28, _ => exact e 28 (by decide)
    | 29, _ => exact e 29 (by decide)
    | 30, _ => exact e 30 (by decide)
    | 31, _ => exact e 31 (by decide)
    | 32, _ => exact e 32 (by decide)
    | 33, _ => exact e 33 (by decide)
    | 34, _ => exact e 34 (by decide)
    | 35, _ => exact e 35 (by decide)
    | 36, _ => exact e 36 (by decide)
    | 37, _ => exact e 37 (by decide)
    | 38, _ => exact e 38 (by decide)
    | 39, _ => exact e 39 (by decide)
    | 40, _ => exact e 40 (by decide)
    | 41, _ => exact e 41 (by decide)
    | 42, _ => exact e 42 (by decide)
    | 43, _ => exact e 43 (by decide)
    | 44, _ => exact e 44 (by decide)
    | 45, _ => exact e 45 (by decide)
    | 46, _ => exact e 46 (by decide)
    | 47, _ => exact e 47 (by decide)
    | 48, _ => exact e 48 (by decide)
    | 49, _ => exact e 49 (by decide)
    | 50, _ => exact e 50 (by decide)
    | 51, _ => exact e 51 (by decide)
    | 52, _ => exact e 52 (by decide)
    | 53, _ => exact e 53 (by decide)
    | 54, _ => exact e 54 (by decide)
    | 55, _ => exact e 55 (by decide)
    | 56, _ => exact e 56 (by decide)
    | 57, _ => exact e 57 (by decide)
    | 58, _ => exact e 58 (by decide)
    | 59, _ => exact e 59 (by decide)
    | 60, _ => exact e 60 (by decide)
    | 61, _ => exact e 61 (by decide)
    | 62, _ => exact e 62 (by decide)
    | 63, _ => exact e 63 (by decide)
    | 64, _ => exact e 64 (by decide)
    | 65, _ => exact e 65 (by decide)
    | 66, _ => exact e 66 (by decide)
    | 67, _ => exact e 67 (by decide)
    | 68, _ => exact e 68 (by decide)
    | 69, _ => exact e 69 (by decide)
    | 70, _ => exact e 70 (by decide)
    | 71, _ => exact e 71 (by decide)
    | 72, _ => exact e 72 (by decide)
    | 73, _ => exact e 73 (by decide)
    | 74, _ => exact e 74 (by decide)
    | 75, _ => exact e 75 (by decide)
    | 76, _ => exact e 76 (by decide)
    | 77, _ => exact e 77 (by decide)
    | 78, _ => exact e 78 (by decide)
    | 79, _ => exact e 79 (by decide)
    | 80, _ => exact e 80 (by decide)
    | 81, _ => exact e 81 (by decide)
    | 82, _ => exact e 82 (by decide)
    | 83, _ => exact e 83 (by decide)
    | 84, _ => exact e 84 (by decide)
    | 85, _ => exact e 85 (by decide)
    | 86, _ => exact e 86 (by decide)
    | 87, _ => exact e 87 (by decide)
    | 88, _ => exact e 88 (by decide)
    | 89, _ => exact e 89 (by decide)
    | 90, _ => exact e 90 (by decide)
    | 91, _ => exact e 91 (by decide)
    | 92, _ => exact e 92 (by decide)
    | 93, _ => exact e 93 (by decide)
    | 94, _ => exact e 94 (by decide)
    | 95, _ => exact e 95 (by decide)
    | 96, _ => exact e 96 (by decide)
    | 97, _ => exact e 97 (by decide)
    | 98, _ => exact e 98 (by decide)
    | 99, _ => exact e 99 (by decide)
    | 100, _ => exact e 100 (by decide)
    | 101, _ => exact e 101 (by decide)
    | 102, _ => exact e 102 (by decide)
    | 103, _ => exact e 103 (by decide)
    | 104, _ => exact e 104 (by decide)
    | 105, _ => exact e 105 (by decide)
    | 106, _ => exact e 106 (by decide)
    | 107, _ => exact e 107 (by decide)
    | 108, _ => exact e 108 (by decide)
    | 109, _ => exact e 109 (by decide)
    | 110, _ => exact e 110 (by decide)
    | 111, _ => exact e 111 (by decide)
    | 112, _ => exact e 112 (by decide)
    | 113, _ => exact e 113 (by decide)
    | 114, _ => exact e 114 (by decide)
    | 115, _ => exact e 115 (by decide)
    | 116, _ => exact e 116 (by decide)
    | 117, _ => exact e 117 (by decide)
    | 118, _ => exact e 118 (by decide)
    | 119, _ => exact e 119 (by decide)
    | 120, _ => exact e 120 (by decide)
    | 121, _ => exact e 121 (by decide)
    | 122, _ => exact e 122 (by decide)
    | 123, _ => exact e 123 (by decide)
    | k + 124, h => exact absurd h (by omega)
  · rw [List.getElem?_eq_none (by omega), List.getElem?_eq_none (show 124 ≤ k by omega)]
def look9 (T : List AV) : Nat × List (Option AV) := (T.length, [1, 2, 3, 4, 5, 7, 8, 9, 10].map fun k => T[k]?)
theorem run_TL {n : Nat} {c : Code} {T : List AV} {s s' : AS} {e : AExit} {ds : List Dec} {q : List Qst} {zb b sa : Nat} {l xv : AV} {to many i : Nat} (h : (runX Tryz.prog none_ n 3 (.code c T s) ds).map (fun x => (x.1.e, look9 x.1.ts, x.1.s, x.2.2)) = some (e, (124, [some (.ptr zb 0), some (.bool false), some (.ptr b 0), some (.ptr sa 0), some (l), some (xv), some (.int .u8 (Int.ofNat to)), some (.int .i64 (Int.ofNat many)), some (.int .i64 (Int.ofNat i))]), s', q)) (hq : Qsts Tryz.prog q) :
    ∃ j, Sound Tryz.prog (.code c T s) ⟨e, TL zb b sa l xv to many i j, s'⟩ := by
  cases hr : runX Tryz.prog none_ n 3 (.code c T s) ds with
  | none => rw [hr] at h; cases h
  | some x =>
    rw [hr] at h
    obtain ⟨⟨e, ts', s1⟩, ds', q'⟩ := x
    simp only [Option.map_some, Option.some.injEq, Prod.mk.injEq, look9, List.map_cons, List.map_nil, List.cons.injEq, and_true] at h
    obtain ⟨rfl, ⟨hl, g1, g2, g3, g4, g5, g7, g8, g9, g10⟩, rfl, rfl⟩ := h
    have hs := runX_sound mixed none_sound hr hq
    rw [TL_of hl g1 g2 g3 g4 g5 g7 g8 g9 g10] at hs
    exact ⟨_, hs⟩
theorem lw_end (s _ _ _ _ _ _ _ : AS) (zb b sa : Nat) (l : AV) (to many i _ : Nat) (j : Nat → AV) (lL _ : AV) (ln _ _ _ _ _ _ _ _ _ _ _ _ _ _ _ _ _ _ _ _ : Nat) (_ _ : List AV) : (runX Tryz.prog none_ 300 3 (.code (loopAt Tryz.prog 3 1) (TL zb b sa l .nilPtr to many i j) s) [.val 3 18 2 lL, .val 3 18 3 (.int .i64 (Int.ofNat ln)), .val 3 18 4 (.bool false)]).map (fun x => (x.1.e, look9 x.1.ts, x.1.s, x.2.2)) = some (AExit.exit 2, (124, [some (AV.ptr zb 0), some (AV.bool false), some (AV.ptr b 0), some (AV.ptr sa 0), some l, some AV.nilPtr, some (AV.int IntKind.u8 (Int.ofNat to)), some (AV.int IntKind.i64 (Int.ofNat many)), some (AV.int IntKind.i64 (Int.ofNat i))]), s, [Qst.ld 22 s (AV.ptr zb 3) lL, Qst.ln 22 s lL (AV.int IntKind.i64 (Int.ofNat ln)), Qst.val (some (AV.bool (decide (Int.ofNat i < Int.ofNat ln)))) (AV.bool false)]) := by kernel_rfl
theorem lw_endx (s _ _ _ _ _ _ _ : AS) (zb b sa : Nat) (l : AV) (to many i x : Nat) (j : Nat → AV) (lL _ : AV) (ln _ _ _ _ _ _ _ _ _ _ _ _ _ _ _ _ _ _ _ _ : Nat) (_ _ : List AV) : (runX Tryz.prog none_ 300 3 (.code (loopAt Tryz.prog 3 1) (TL zb b sa l (.ptr x 0) to many i j) s) [.val 3 18 2 lL, .val 3 18 3 (.int .i64 (Int.ofNat ln)), .val 3 18 4 (.bool false)]).map (fun x => (x.1.e, look9 x.1.ts, x.1.s, x.2.2)) = some (AExit.exit 2, (124, [some (AV.ptr zb 0), some (AV.bool false), some (AV.ptr b 0), some (AV.ptr sa 0), some l, some (AV.ptr x 0), some (AV.int IntKind.u8 (Int.ofNat to)), some (AV.int IntKind.i64 (Int.ofNat many)), some (AV.int IntKind.i64 (Int.ofNat i))]), s, [Qst.ld 22 s (AV.ptr zb 3) lL, Qst.ln 22 s lL (AV.int IntKind.i64 (Int.ofNat ln)), Qst.val (some (AV.bool (decide (Int.ofNat i < Int.ofNat ln)))) (AV.bool false)]) := by kernel_rfl
theorem lw_t (s s1 s2 s3 _ _ _ _ : AS) (zb b sa : Nat) (l : AV) (to many i _ : Nat) (j : Nat → AV) (lL _ : AV) (ln lb p y k _ _ _ _ _ _ _ _ _ _ _ _ _ i1 tb o : Nat) (_ p1 : List AV) : (runX Tryz.prog none_ 300 3 (.code (loopAt Tryz.prog 3 1) (TL zb b sa l .nilPtr to many i j) s) [.val 3 18 2 lL, .val 3 18 3 (.int .i64 (Int.ofNat ln)), .val 3 18 4 (.bool true), .val 3 20 1 lL, .val 3 20 3 (.ptr lb p), .val 3 20 4 (.int .u8 (Int.ofNat y)), .val 3 20 5 (.int .i64 (Int.ofNat y)), .val 3 20 6 (.int .i64 (Int.ofNat k)), .val 3 21 1 (.bool true), .val 3 22 2 (.ptr tb o), .call 3 22 4 (.tuple []) (fun _ => s1), .call 3 32 1 (.agg p1) (fun _ => s2), .pure 3 32 2 [] (.bool true), .call 3 32 7 (.bool true) (fun _ => s3), .val 3 19 1 (.int .i64 (Int.ofNat i1))]).map (fun x => (x.1.e, look9 x.1.ts, x.1.s, x.2.2)) = some (AExit.normal, (124, [some (AV.ptr zb 0), some (AV.bool false), some (AV.ptr b 0), some (AV.ptr sa 0), some l, some AV.nilPtr, some (AV.int IntKind.u8 (Int.ofNat to)), some (AV.int IntKind.i64 (Int.ofNat many)), some (AV.int IntKind.i64 (Int.ofNat i1))]), s3, [Qst.ld 22 s (AV.ptr zb 3) lL, Qst.ln 22 s lL (AV.int IntKind.i64 (Int.ofNat ln)), Qst.val (some (AV.bool (decide (Int.ofNat i < Int.ofNat ln)))) (AV.bool true), Qst.ld 22 s (AV.ptr zb 3) lL, Qst.idx 22 lL (AV.int IntKind.i64 (Int.ofNat i)) (AV.ptr lb p), Qst.ld 5 s (AV.ptr lb p) (AV.int IntKind.u8 (Int.ofNat y)), Qst.val (some (AV.int IntKind.i64 (IntKind.i64.wrap (Int.ofNat y)))) (AV.int IntKind.i64 (Int.ofNat y)), Qst.val (some (AV.int IntKind.i64 (Int.ofNat (y % 5)))) (AV.int IntKind.i64 (Int.ofNat k)), Qst.val (some (AV.bool (decide (Int.ofNat k < 4)))) (AV.bool true), Qst.idx 39 l (AV.int IntKind.i64 (Int.ofNat k)) (AV.ptr tb o), Qst.snd (Task.call 9 [AV.ptr tb o, AV.ptr b 0] s) { e := AExit.ret, ts := [AV.tuple []], s := s1 }, Qst.snd (Task.call 10 [AV.ptr b 0] s1) { e := AExit.ret, ts := [AV.agg p1], s := s2 }, Qst.pure [] 15 [AV.agg p1] (AV.bool true), Qst.snd (Task.call 16 [AV.ptr b 0, l] s2) { e := AExit.ret, ts := [AV.bool true], s := s3 }, Qst.val (some (AV.int IntKind.i64 (IntKind.i64.wrap (Int.ofNat (i + 1))))) (AV.int IntKind.i64 (Int.ofNat i1))]) := by kernel_rfl
theorem lw_tx (s s1 s2 s3 _ _ _ _ : AS) (zb b sa : Nat) (l : AV) (to many i x : Nat) (j : Nat → AV) (lL _ : AV) (ln lb p y k _ _ _ _ _ _ _ _ _ _ _ _ _ i1 tb o : Nat) (_ p1 : List AV) : (runX Tryz.prog none_ 300 3 (.code (loopAt Tryz.prog 3 1) (TL zb b sa l (.ptr x 0) to many i j) s) [.val 3 18 2 lL, .val 3 18 3 (.int .i64 (Int.ofNat ln)), .val 3 18 4 (.bool true), .val 3 20 1 lL, .val 3 20 3 (.ptr lb p), .val 3 20 4 (.int .u8 (Int.ofNat y)), .val 3 20 5 (.int .i64 (Int.ofNat y)), .val 3 20 6 (.int .i64 (Int.ofNat k)), .val 3 21 1 (.bool true), .val 3 22 2 (.ptr tb o), .call 3 22 4 (.tuple []) (fun _ => s1), .call 3 32 1 (.agg p1) (fun _ => s2), .pure 3 32 2 [] (.bool true), .call 3 32 7 (.bool true) (fun _ => s3), .val 3 19 1 (.int .i64 (Int.ofNat i1))]).map (fun x => (x.1.e, look9 x.1.ts, x.1.s, x.2.2)) = some (AExit.normal, (124, [some (AV.ptr zb 0), some (AV.bool false), some (AV.ptr b 0), some (AV.ptr sa 0), some l, some (AV.ptr x 0), some (AV.int IntKind.u8 (Int.ofNat to)), some (AV.int IntKind.i64 (Int.ofNat many)), some (AV.int IntKind.i64 (Int.ofNat i1))]), s3, [Qst.ld 22 s (AV.ptr zb 3) lL, Qst.ln 22 s lL (AV.int IntKind.i64 (Int.ofNat ln)), Qst.val (some (AV.bool (decide (Int.ofNat i < Int.ofNat ln)))) (AV.bool true), Qst.ld 22 s (AV.ptr zb 3) lL, Qst.idx 22 lL (AV.int IntKind.i64 (Int.ofNat i)) (AV.ptr lb p), Qst.ld 5 s (AV.ptr lb p) (AV.int IntKind.u8 (Int.ofNat y)), Qst.val (some (AV.int IntKind.i64 (IntKind.i64.wrap (Int.ofNat y)))) (AV.int IntKind.i64 (Int.ofNat y)), Qst.val (some (AV.int IntKind.i64 (Int.ofNat (y % 5)))) (AV.int IntKind.i64 (Int.ofNat k)), Qst.val (some (AV.bool (decide (Int.ofNat k < 4)))) (AV.bool true), Qst.idx 39 l (AV.int IntKind.i64 (Int.ofNat k)) (AV.ptr tb o), Qst.snd (Task.call 9 [AV.ptr tb o, AV.ptr b 0] s) { e := AExit.ret, ts := [AV.tuple []], s := s1 }, Qst.snd (Task.call 10 [AV.ptr b 0] s1) { e := AExit.ret, ts := [AV.agg p1], s := s2 }, Qst.pure [] 15 [AV.agg p1] (AV.bool true), Qst.snd (Task.call 16 [AV.ptr b 0, l] s2) { e := AExit.ret, ts := [AV.bool true], s := s3 }, Qst.val (some (AV.int IntKind.i64 (IntKind.i64.wrap (Int.ofNat (i + 1))))) (AV.int IntKind.i64 (Int.ofNat i1))]) := by kernel_rfl
theorem lw_xg (s s1 s2 _ s4 s5 s6 _ : AS) (zb b sa : Nat) (l : AV) (to many i x : Nat) (j : Nat → AV) (lL _ : AV) (ln lb p y k _ _ _ _ _ _ _ _ _ _ _ _ _ i1 _ _ : Nat) (p0 p1 : List AV) : (runX Tryz.prog none_ 300 3 (.code (loopAt Tryz.prog 3 1) (TL zb b sa l (.ptr x 0) to many i j) s) [.val 3 18 2 lL, .val 3 18 3 (.int .i64 (Int.ofNat ln)), .val 3 18 4 (.bool true), .val 3 20 1 lL, .val 3 20 3 (.ptr lb p), .val 3 20 4 (.int .u8 (Int.ofNat y)), .val 3 20 5 (.int .i64 (Int.ofNat y)), .val 3 20 6 (.int .i64 (Int.ofNat k)), .val 3 21 1 (.bool false), .call 3 23 1 (.agg p0) (fun _ => s1), .eff 3 23 3 undefA (fun _ => s2), .call 3 28 2 (.bool false) (fun _ => s4), .call 3 32 1 (.agg p1) (fun _ => s5), .pure 3 32 2 [] (.bool true), .call 3 32 7 (.bool true) (fun _ => s6), .val 3 19 1 (.int .i64 (Int.ofNat i1))]).map (fun x => (x.1.e, look9 x.1.ts, x.1.s, x.2.2)) = some (AExit.normal, (124, [some (AV.ptr zb 0), some (AV.bool false), some (AV.ptr b 0), some (AV.ptr sa 0), some l, some (AV.ptr x 0), some (AV.int IntKind.u8 (Int.ofNat to)), some (AV.int IntKind.i64 (Int.ofNat many)), some (AV.int IntKind.i64 (Int.ofNat i1))]), s6, [Qst.ld 22 s (AV.ptr zb 3) lL, Qst.ln 22 s lL (AV.int IntKind.i64 (Int.ofNat ln)), Qst.val (some (AV.bool (decide (Int.ofNat i < Int.ofNat ln)))) (AV.bool true), Qst.ld 22 s (AV.ptr zb 3) lL, Qst.idx 22 lL (AV.int IntKind.i64 (Int.ofNat i)) (AV.ptr lb p), Qst.ld 5 s (AV.ptr lb p) (AV.int IntKind.u8 (Int.ofNat y)), Qst.val (some (AV.int IntKind.i64 (IntKind.i64.wrap (Int.ofNat y)))) (AV.int IntKind.i64 (Int.ofNat y)), Qst.val (some (AV.int IntKind.i64 (Int.ofNat (y % 5)))) (AV.int IntKind.i64 (Int.ofNat k)), Qst.val (some (AV.bool (decide (Int.ofNat k < 4)))) (AV.bool false), Qst.snd (Task.call 10 [AV.ptr b 0] s) { e := AExit.ret, ts := [AV.agg p0], s := s1 }, Qst.sto { h := { bs := (((fun _ => s1) s).nx, AObj.cells false [AV.int IntKind.u8 (Int.ofNat 0), AV.int IntKind.u8 (Int.ofNat 0), AV.int IntKind.u8 (Int.ofNat 0), AV.int IntKind.u64 (Int.ofNat 0)]) :: ((fun _ => s1) s).h.1, len := ((fun _ => s1) s).h.len + 1, esc := ((fun _ => s1) s).h.3, wr := ((fun _ => s1) s).h.4 }, nx := ((fun _ => s1) s).nx + 1 } 34 (AV.ptr ((fun _ => s1) s).nx 0) (AV.agg p0) (AV.tuple []) s2, Qst.snd (Task.call 12 [AV.ptr x 0, AV.ptr b 0] s2) { e := AExit.ret, ts := [AV.bool false], s := s4 }, Qst.snd (Task.call 10 [AV.ptr b 0] s4) { e := AExit.ret, ts := [AV.agg p1], s := s5 }, Qst.pure [] 15 [AV.agg p1] (AV.bool true), Qst.snd (Task.call 16 [AV.ptr b 0, l] s5) { e := AExit.ret, ts := [AV.bool true], s := s6 }, Qst.val (some (AV.int IntKind.i64 (IntKind.i64.wrap (Int.ofNat (i + 1))))) (AV.int IntKind.i64 (Int.ofNat i1))]) := by kernel_rfl
theorem lw_xo (s s1 s2 _ s4 s5 s6 s7 : AS) (zb b sa : Nat) (l : AV) (to many i x : Nat) (j : Nat → AV) (lL _ : AV) (ln lb p y k _ _ _ _ _ _ _ _ _ _ _ _ e i1 _ _ : Nat) (p0 p1 : List AV) : (runX Tryz.prog none_ 300 3 (.code (loopAt Tryz.prog 3 1) (TL zb b sa l (.ptr x 0) to many i j) s) [.val 3 18 2 lL, .val 3 18 3 (.int .i64 (Int.ofNat ln)), .val 3 18 4 (.bool true), .val 3 20 1 lL, .val 3 20 3 (.ptr lb p), .val 3 20 4 (.int .u8 (Int.ofNat y)), .val 3 20 5 (.int .i64 (Int.ofNat y)), .val 3 20 6 (.int .i64 (Int.ofNat k)), .val 3 21 1 (.bool false), .call 3 23 1 (.agg p0) (fun _ => s1), .eff 3 23 3 undefA (fun _ => s2), .call 3 28 2 (.bool true) (fun _ => s4), .skip 3 29 999, .val 3 29 2 (.agg p0), .call 3 29 1 (.int .i64 (Int.ofNat e)) (fun _ => s4), .call 3 29 4 (.agg p1) (fun _ => s5), .call 3 29 6 (.bool true) (fun _ => s5), .call 3 32 1 (.agg p1) (fun _ => s6), .pure 3 32 2 [] (.bool true), .call 3 32 7 (.bool true) (fun _ => s7), .val 3 19 1 (.int .i64 (Int.ofNat i1))]).map (fun x => (x.1.e, look9 x.1.ts, x.1.s, x.2.2)) = some (AExit.normal, (124, [some (AV.ptr zb 0), some (AV.bool false), some (AV.ptr b 0), some (AV.ptr sa 0), some l, some AV.nilPtr, some (AV.int IntKind.u8 (Int.ofNat to)), some (AV.int IntKind.i64 (Int.ofNat many)), some (AV.int IntKind.i64 (Int.ofNat i1))]), s7, [Qst.ld 22 s (AV.ptr zb 3) lL, Qst.ln 22 s lL (AV.int IntKind.i64 (Int.ofNat ln)), Qst.val (some (AV.bool (decide (Int.ofNat i < Int.ofNat ln)))) (AV.bool true), Qst.ld 22 s (AV.ptr zb 3) lL, Qst.idx 22 lL (AV.int IntKind.i64 (Int.ofNat i)) (AV.ptr lb p), Qst.ld 5 s (AV.ptr lb p) (AV.int IntKind.u8 (Int.ofNat y)), Qst.val (some (AV.int IntKind.i64 (IntKind.i64.wrap (Int.ofNat y)))) (AV.int IntKind.i64 (Int.ofNat y)), Qst.val (some (AV.int IntKind.i64 (Int.ofNat (y % 5)))) (AV.int IntKind.i64 (Int.ofNat k)), Qst.val (some (AV.bool (decide (Int.ofNat k < 4)))) (AV.bool false), Qst.snd (Task.call 10 [AV.ptr b 0] s) { e := AExit.ret, ts := [AV.agg p0], s := s1 }, Qst.sto { h := { bs := (((fun _ => s1) s).nx, AObj.cells false [AV.int IntKind.u8 (Int.ofNat 0), AV.int IntKind.u8 (Int.ofNat 0), AV.int IntKind.u8 (Int.ofNat 0), AV.int IntKind.u64 (Int.ofNat 0)]) :: ((fun _ => s1) s).h.1, len := ((fun _ => s1) s).h.len + 1, esc := ((fun _ => s1) s).h.3, wr := ((fun _ => s1) s).h.4 }, nx := ((fun _ => s1) s).nx + 1 } 34 (AV.ptr ((fun _ => s1) s).nx 0) (AV.agg p0) (AV.tuple []) s2, Qst.snd (Task.call 12 [AV.ptr x 0, AV.ptr b 0] s2) { e := AExit.ret, ts := [AV.bool true], s := s4 }, Qst.ld 34 s4 (AV.ptr ((fun _ => s1) s).nx 0) (AV.agg p0), Qst.snd (Task.call 14 [AV.ptr x 0] s4) { e := AExit.ret, ts := [AV.int IntKind.i64 (Int.ofNat e)], s := s4 }, Qst.snd (Task.call 10 [AV.ptr b 0] s4) { e := AExit.ret, ts := [AV.agg p1], s := s5 }, Qst.snd (Task.call 13 [AV.int IntKind.i64 (Int.ofNat e), AV.agg p0, AV.agg p1, AV.int IntKind.u8 (Int.ofNat to)] s5) { e := AExit.ret, ts := [AV.bool true], s := s5 }, Qst.ld 34 s4 (AV.ptr ((fun _ => s1) s).nx 0) (AV.agg p0), Qst.ld 34 s4 (AV.ptr ((fun _ => s1) s).nx 0) (AV.agg p0), Qst.ld 34 s5 (AV.ptr ((fun _ => s1) s).nx 0) (AV.agg p0), Qst.snd (Task.call 10 [AV.ptr b 0] s5) { e := AExit.ret, ts := [AV.agg p1], s := s6 }, Qst.pure [] 15 [AV.agg p1] (AV.bool true), Qst.snd (Task.call 16 [AV.ptr b 0, l] s6) { e := AExit.ret, ts := [AV.bool true], s := s7 }, Qst.val (some (AV.int IntKind.i64 (IntKind.i64.wrap (Int.ofNat (i + 1))))) (AV.int IntKind.i64 (Int.ofNat i1))]) := by kernel_rfl
theorem lw_ng (s s1 s2 s3 s4 s5 s6 _ : AS) (zb b sa : Nat) (l : AV) (to many i x : Nat) (j : Nat → AV) (lL lT : AV) (ln lb p y k nt r tob r2 y2 q q1 to1 m1 lk q2 lk1 _ i1 _ _ : Nat) (p0 p1 : List AV) : (runX Tryz.prog none_ 300 3 (.code (loopAt Tryz.prog 3 1) (TL zb b sa l .nilPtr to many i j) s) [.val 3 18 2 lL, .val 3 18 3 (.int .i64 (Int.ofNat ln)), .val 3 18 4 (.bool true), .val 3 20 1 lL, .val 3 20 3 (.ptr lb p), .val 3 20 4 (.int .u8 (Int.ofNat y)), .val 3 20 5 (.int .i64 (Int.ofNat y)), .val 3 20 6 (.int .i64 (Int.ofNat k)), .val 3 21 1 (.bool false), .call 3 23 1 (.agg p0) (fun _ => s1), .eff 3 23 3 undefA (fun _ => s2), .skip 3 25 999, .val 3 25 1 lT, .val 3 25 4 lT, .val 3 25 5 (.int .i64 (Int.ofNat nt)), .val 3 25 6 (.int .i64 (Int.ofNat r)), .val 3 25 7 (.ptr tob r2), .val 3 25 8 (.int .u8 (Int.ofNat y2)), .val 3 25 9 (.int .u8 (Int.ofNat q)), .val 3 25 10 (.ptr sa q1), .val 3 25 11 (.int .u8 (Int.ofNat to1)), .val 3 26 1 (.int .i64 (Int.ofNat m1)), .val 3 27 2 (.int .u8 (Int.ofNat lk)), .val 3 27 3 (.int .u8 (Int.ofNat q2)), .val 3 27 4 (.int .i64 (Int.ofNat q2)), .val 3 27 5 (.int .i64 (Int.ofNat lk1)), .call 3 27 6 (.ptr x 0) (fun _ => s3), .call 3 28 2 (.bool false) (fun _ => s4), .call 3 32 1 (.agg p1) (fun _ => s5), .pure 3 32 2 [] (.bool true), .call 3 32 7 (.bool true) (fun _ => s6), .val 3 19 1 (.int .i64 (Int.ofNat i1))]).map (fun x => (x.1.e, look9 x.1.ts, x.1.s, x.2.2)) = some (AExit.normal, (124, [some (AV.ptr zb 0), some (AV.bool false), some (AV.ptr b 0), some (AV.ptr sa 0), some l, some (AV.ptr x 0), some (AV.int IntKind.u8 (Int.ofNat to1)), some (AV.int IntKind.i64 (Int.ofNat m1)), some (AV.int IntKind.i64 (Int.ofNat i1))]), s6, [Qst.ld 22 s (AV.ptr zb 3) lL, Qst.ln 22 s lL (AV.int IntKind.i64 (Int.ofNat ln)), Qst.val (some (AV.bool (decide (Int.ofNat i < Int.ofNat ln)))) (AV.bool true), Qst.ld 22 s (AV.ptr zb 3) lL, Qst.idx 22 lL (AV.int IntKind.i64 (Int.ofNat i)) (AV.ptr lb p), Qst.ld 5 s (AV.ptr lb p) (AV.int IntKind.u8 (Int.ofNat y)), Qst.val (some (AV.int IntKind.i64 (IntKind.i64.wrap (Int.ofNat y)))) (AV.int IntKind.i64 (Int.ofNat y)), Qst.val (some (AV.int IntKind.i64 (Int.ofNat (y % 5)))) (AV.int IntKind.i64 (Int.ofNat k)), Qst.val (some (AV.bool (decide (Int.ofNat k < 4)))) (AV.bool false), Qst.snd (Task.call 10 [AV.ptr b 0] s) { e := AExit.ret, ts := [AV.agg p0], s := s1 }, Qst.sto { h := { bs := (((fun _ => s1) s).nx, AObj.cells false [AV.int IntKind.u8 (Int.ofNat 0), AV.int IntKind.u8 (Int.ofNat 0), AV.int IntKind.u8 (Int.ofNat 0), AV.int IntKind.u64 (Int.ofNat 0)]) :: ((fun _ => s1) s).h.1, len := ((fun _ => s1) s).h.len + 1, esc := ((fun _ => s1) s).h.3, wr := ((fun _ => s1) s).h.4 }, nx := ((fun _ => s1) s).nx + 1 } 34 (AV.ptr ((fun _ => s1) s).nx 0) (AV.agg p0) (AV.tuple []) s2, Qst.ld 22 s2 (AV.ptr zb 1) lT, Qst.ld 22 s2 (AV.ptr zb 1) lT, Qst.ln 22 s2 lT (AV.int IntKind.i64 (Int.ofNat nt)), Qst.val (Decidable.rec (fun h => (fun _ => some (AV.int IntKind.i64 ((Int.ofNat many).tmod (Int.ofNat nt)))) h) (fun h => (fun _ => none) h) (Decidable.rec (fun h => (fun h => (fun h => isFalse (Int.decEq._proof_2 nt 0 h)) h) h) (fun h => (fun h => (fun h => isTrue (Int.decEq._proof_1 nt 0 h)) h) h) (Bool.rec (motive := fun x => nt.beq 0 = x → (fun _ => Decidable (nt = 0)) x) (fun h => isFalse (Nat.ne_of_beq_eq_false h)) (fun h => isTrue (Nat.eq_of_beq_eq_true h)) (nt.beq 0) (Eq.refl (nt.beq 0))))) (AV.int IntKind.i64 (Int.ofNat r)), Qst.idx 22 lT (AV.int IntKind.i64 (Int.ofNat r)) (AV.ptr tob r2), Qst.ld 5 s2 (AV.ptr tob r2) (AV.int IntKind.u8 (Int.ofNat y2)), Qst.val (some (AV.int IntKind.u8 (Int.ofNat (y2 % 3)))) (AV.int IntKind.u8 (Int.ofNat q)), Qst.idx 29 (AV.ptr sa 0) (AV.int IntKind.u8 (Int.ofNat q)) (AV.ptr sa q1), Qst.ld 28 s2 (AV.ptr sa q1) (AV.int IntKind.u8 (Int.ofNat to1)), Qst.ld 28 s2 (AV.ptr sa q1) (AV.int IntKind.u8 (Int.ofNat to1)), Qst.ld 5 s2 (AV.ptr tob r2) (AV.int IntKind.u8 (Int.ofNat y2)), Qst.ln 22 s2 lT (AV.int IntKind.i64 (Int.ofNat nt)), Qst.ld 22 s2 (AV.ptr zb 1) lT, Qst.ld 22 s2 (AV.ptr zb 1) lT, Qst.val (some (AV.int IntKind.i64 (IntKind.i64.wrap (Int.ofNat (many + 1))))) (AV.int IntKind.i64 (Int.ofNat m1)), Qst.ld 5 s2 (AV.ptr zb 2) (AV.int IntKind.u8 (Int.ofNat lk)), Qst.val (some (AV.int IntKind.u8 (Int.ofNat (lk % 12)))) (AV.int IntKind.u8 (Int.ofNat q2)), Qst.val (some (AV.int IntKind.i64 (IntKind.i64.wrap (Int.ofNat q2)))) (AV.int IntKind.i64 (Int.ofNat q2)), Qst.val (some (AV.int IntKind.i64 (IntKind.i64.wrap (Int.ofNat (1 + q2))))) (AV.int IntKind.i64 (Int.ofNat lk1)), Qst.snd (Task.call 11 [AV.int IntKind.u8 (Int.ofNat to1), AV.int IntKind.i64 (Int.ofNat lk1)] s2) { e := AExit.ret, ts := [AV.ptr x 0], s := s3 }, Qst.snd (Task.call 12 [AV.ptr x 0, AV.ptr b 0] s3) { e := AExit.ret, ts := [AV.bool false], s := s4 }, Qst.snd (Task.call 10 [AV.ptr b 0] s4) { e := AExit.ret, ts := [AV.agg p1], s := s5 }, Qst.pure [] 15 [AV.agg p1] (AV.bool true), Qst.snd (Task.call 16 [AV.ptr b 0, l] s5) { e := AExit.ret, ts := [AV.bool true], s := s6 }, Qst.val (some (AV.int IntKind.i64 (IntKind.i64.wrap (Int.ofNat (i + 1))))) (AV.int IntKind.i64 (Int.ofNat i1))]) := by kernel_rfl
theorem lw_no (s s1 s2 s3 s4 s5 s6 s7 : AS) (zb b sa : Nat) (l : AV) (to many i x : Nat) (j : Nat → AV) (lL lT : AV) (ln lb p y k nt r tob r2 y2 q q1 to1 m1 lk q2 lk1 e i1 _ _ : Nat) (p0 p1 : List AV) : (runX Tryz.prog none_ 300 3 (.code (loopAt Tryz.prog 3 1) (TL zb b sa l .nilPtr to many i j) s) [.val 3 18 2 lL, .val 3 18 3 (.int .i64 (Int.ofNat ln)), .val 3 18 4 (.bool true), .val 3 20 1 lL, .val 3 20 3 (.ptr lb p), .val 3 20 4 (.int .u8 (Int.ofNat y)), .val 3 20 5 (.int .i64 (Int.ofNat y)), .val 3 20 6 (.int .i64 (Int.ofNat k)), .val 3 21 1 (.bool false), .call 3 23 1 (.agg p0) (fun _ => s1), .eff 3 23 3 undefA (fun _ => s2), .skip 3 25 999, .val 3 25 1 lT, .val 3 25 4 lT, .val 3 25 5 (.int .i64 (Int.ofNat nt)), .val 3 25 6 (.int .i64 (Int.ofNat r)), .val 3 25 7 (.ptr tob r2), .val 3 25 8 (.int .u8 (Int.ofNat y2)), .val 3 25 9 (.int .u8 (Int.ofNat q)), .val 3 25 10 (.ptr sa q1), .val 3 25 11 (.int .u8 (Int.ofNat to1)), .val 3 26 1 (.int .i64 (Int.ofNat m1)), .val 3 27 2 (.int .u8 (Int.ofNat lk)), .val 3 27 3 (.int .u8 (Int.ofNat q2)), .val 3 27 4 (.int .i64 (Int.ofNat q2)), .val 3 27 5 (.int .i64 (Int.ofNat lk1)), .call 3 27 6 (.ptr x 0) (fun _ => s3), .call 3 28 2 (.bool true) (fun _ => s4), .skip 3 29 999, .val 3 29 2 (.agg p0), .call 3 29 1 (.int .i64 (Int.ofNat e)) (fun _ => s4), .call 3 29 4 (.agg p1) (fun _ => s5), .call 3 29 6 (.bool true) (fun _ => s5), .call 3 32 1 (.agg p1) (fun _ => s6), .pure 3 32 2 [] (.bool true), .call 3 32 7 (.bool true) (fun _ => s7), .val 3 19 1 (.int .i64 (Int.ofNat i1))]).map (fun x => (x.1.e, look9 x.1.ts, x.1.s, x.2.2)) = some (AExit.normal, (124, [some (AV.ptr zb 0), some (AV.bool false), some (AV.ptr b 0), some (AV.ptr sa 0), some l, some AV.nilPtr, some (AV.int IntKind.u8 (Int.ofNat to1)), some (AV.int IntKind.i64 (Int.ofNat m1)), some (AV.int IntKind.i64 (Int.ofNat i1))]), s7, [Qst.ld 22 s (AV.ptr zb 3) lL, Qst.ln 22 s lL (AV.int IntKind.i64 (Int.ofNat ln)), Qst.val (some (AV.bool (decide (Int.ofNat i < Int.ofNat ln)))) (AV.bool true), Qst.ld 22 s (AV.ptr zb 3) lL, Qst.idx 22 lL (AV.int IntKind.i64 (Int.ofNat i)) (AV.ptr lb p), Qst.ld 5 s (AV.ptr lb p) (AV.int IntKind.u8 (Int.ofNat y)), Qst.val (some (AV.int IntKind.i64 (IntKind.i64.wrap (Int.ofNat y)))) (AV.int IntKind.i64 (Int.ofNat y)), Qst.val (some (AV.int IntKind.i64 (Int.ofNat (y % 5)))) (AV.int IntKind.i64 (Int.ofNat k)), Qst.val (some (AV.bool (decide (Int.ofNat k < 4)))) (AV.bool false), Qst.snd (Task.call 10 [AV.ptr b 0] s) { e := AExit.ret, ts := [AV.agg p0], s := s1 }, Qst.sto { h := { bs := (((fun _ => s1) s).nx, AObj.cells false [AV.int IntKind.u8 (Int.ofNat 0), AV.int IntKind.u8 (Int.ofNat 0), AV.int IntKind.u8 (Int.ofNat 0), AV.int IntKind.u64 (Int.ofNat 0)]) :: ((fun _ => s1) s).h.1, len := ((fun _ => s1) s).h.len + 1, esc := ((fun _ => s1) s).h.3, wr := ((fun _ => s1) s).h.4 }, nx := ((fun _ => s1) s).nx + 1 } 34 (AV.ptr ((fun _ => s1) s).nx 0) (AV.agg p0) (AV.tuple []) s2, Qst.ld 22 s2 (AV.ptr zb 1) lT, Qst.ld 22 s2 (AV.ptr zb 1) lT, Qst.ln 22 s2 lT (AV.int IntKind.i64 (Int.ofNat nt)), Qst.val (Decidable.rec (fun h => (fun _ => some (AV.int IntKind.i64 ((Int.ofNat many).tmod (Int.ofNat nt)))) h) (fun h => (fun _ => none) h) (Decidable.rec (fun h => (fun h => (fun h => isFalse (Int.decEq._proof_2 nt 0 h)) h) h) (fun h => (fun h => (fun h => isTrue (Int.decEq._proof_1 nt 0 h)) h) h) (Bool.rec (motive := fun x => nt.beq 0 = x → (fun _ => Decidable (nt = 0)) x) (fun h => isFalse (Nat.ne_of_beq_eq_false h)) (fun h => isTrue (Nat.eq_of_beq_eq_true h)) (nt.beq 0) (Eq.refl (nt.beq 0))))) (AV.int IntKind.i64 (Int.ofNat r)), Qst.idx 22 lT (AV.int IntKind.i64 (Int.ofNat r)) (AV.ptr tob r2), Qst.ld 5 s2 (AV.ptr tob r2) (AV.int IntKind.u8 (Int.ofNat y2)), Qst.val (some (AV.int IntKind.u8 (Int.ofNat (y2 % 3)))) (AV.int IntKind.u8 (Int.ofNat q)), Qst.idx 29 (AV.ptr sa 0) (AV.int IntKind.u8 (Int.ofNat q)) (AV.ptr sa q1), Qst.ld 28 s2 (AV.ptr sa q1) (AV.int IntKind.u8 (Int.ofNat to1)), Qst.ld 28 s2 (AV.ptr sa q1) (AV.int IntKind.u8 (Int.ofNat to1)), Qst.ld 5 s2 (AV.ptr tob r2) (AV.int IntKind.u8 (Int.ofNat y2)), Qst.ln 22 s2 lT (AV.int IntKind.i64 (Int.ofNat nt)), Qst.ld 22 s2 (AV.ptr zb 1) lT, Qst.ld 22 s2 (AV.ptr zb 1) lT, Qst.val (some (AV.int IntKind.i64 (IntKind.i64.wrap (Int.ofNat (many + 1))))) (AV.int IntKind.i64 (Int.ofNat m1)), Qst.ld 5 s2 (AV.ptr zb 2) (AV.int IntKind.u8 (Int.ofNat lk)), Qst.val (some (AV.int IntKind.u8 (Int.ofNat (lk % 12)))) (AV.int IntKind.u8 (Int.ofNat q2)), Qst.val (some (AV.int IntKind.i64 (IntKind.i64.wrap (Int.ofNat q2)))) (AV.int IntKind.i64 (Int.ofNat q2)), Qst.val (some (AV.int IntKind.i64 (IntKind.i64.wrap (Int.ofNat (1 + q2))))) (AV.int IntKind.i64 (Int.ofNat lk1)), Qst.snd (Task.call 11 [AV.int IntKind.u8 (Int.ofNat to1), AV.int IntKind.i64 (Int.ofNat lk1)] s2) { e := AExit.ret, ts := [AV.ptr x 0], s := s3 }, Qst.snd (Task.call 12 [AV.ptr x 0, AV.ptr b 0] s3) { e := AExit.ret, ts := [AV.bool true], s := s4 }, Qst.ld 34 s4 (AV.ptr ((fun _ => s1) s).nx 0) (AV.agg p0), Qst.snd (Task.call 14 [AV.ptr x 0] s4) { e := AExit.ret, ts := [AV.int IntKind.i64 (Int.ofNat e)], s := s4 }, Qst.snd (Task.call 10 [AV.ptr b 0] s4) { e := AExit.ret, ts := [AV.agg p1], s := s5 }, Qst.snd (Task.call 13 [AV.int IntKind.i64 (Int.ofNat e), AV.agg p0, AV.agg p1, AV.int IntKind.u8 (Int.ofNat to1)] s5) { e := AExit.ret, ts := [AV.bool true], s := s5 }, Qst.ld 34 s4 (AV.ptr ((fun _ => s1) s).nx 0) (AV.agg p0), Qst.ld 34 s4 (AV.ptr ((fun _ => s1) s).nx 0) (AV.agg p0), Qst.ld 34 s5 (AV.ptr ((fun _ => s1) s).nx 0) (AV.agg p0), Qst.snd (Task.call 10 [AV.ptr b 0] s5) { e := AExit.ret, ts := [AV.agg p1], s := s6 }, Qst.pure [] 15 [AV.agg p1] (AV.bool true), Qst.snd (Task.call 16 [AV.ptr b 0, l] s6) { e := AExit.ret, ts := [AV.bool true], s := s7 }, Qst.val (some (AV.int IntKind.i64 (IntKind.i64.wrap (Int.ofNat (i + 1))))) (AV.int IntKind.i64 (Int.ofNat i1))]) := by kernel_rfl
/-! ended -/
theorem end_0 (b c n b2 c2 n2 to a : Nat) : (runX Tryz.prog none_ 80 13 (.call 13 [.int .i64 (Int.ofNat 0), .agg (phC a b c n), .agg (phC 0 b2 c2 n2), .int .u8 (Int.ofNat to)] (startS Tryz.prog [])) [.val 13 3 7 (.bool true)]).map (fun x => (x.1.ts, x.2.2)) = some ([AV.bool true], [Qst.val (some (AV.bool (Int.ofNat b2 == Int.ofNat to))) (AV.bool true)]) := by kernel_rfl
theorem end_9a (b c n b2 c2 n2 to : Nat) : (runX Tryz.prog none_ 80 13 (.call 13 [.int .i64 (Int.ofNat 9), .agg (phC 1 b c n), .agg (phC 0 b2 c2 n2), .int .u8 (Int.ofNat to)] (startS Tryz.prog [])) [.val 13 5 8 (.bool true)]).map (fun x => (x.1.ts, x.2.2)) = some ([AV.bool true], [Qst.val (some (AV.bool (Int.ofNat b2 == Int.ofNat b))) (AV.bool true)]) := by kernel_rfl
theorem end_9b (b c n to : Nat) : (runX Tryz.prog none_ 80 13 (.call 13 [.int .i64 (Int.ofNat 9), .agg (phC 3 b c n), .agg (phC 3 b c n), .int .u8 (Int.ofNat to)] (startS Tryz.prog [])) [.val 13 5 22 (.bool true), .val 13 5 28 (.bool true)]).map (fun x => (x.1.ts, x.2.2)) = some ([AV.bool true], [Qst.eqv { h := { bs := [(4, AObj.cells false [AV.int IntKind.u8 (Int.ofNat 3), AV.int IntKind.u8 (Int.ofNat b), AV.int IntKind.u8 (Int.ofNat c), AV.int IntKind.u64 (Int.ofNat n)]), (3, AObj.cells false [AV.int IntKind.u8 (Int.ofNat 3), AV.int IntKind.u8 (Int.ofNat b), AV.int IntKind.u8 (Int.ofNat c), AV.int IntKind.u64 (Int.ofNat n)])], len := 2, esc := none, wr := [] }, nx := 5 } 34 [AV.int IntKind.u8 (Int.ofNat 3), AV.int IntKind.u8 (Int.ofNat b), AV.int IntKind.u8 (Int.ofNat c), AV.int IntKind.u64 (Int.ofNat n)] [AV.int IntKind.u8 (Int.ofNat 3), AV.int IntKind.u8 (Int.ofNat b), AV.int IntKind.u8 (Int.ofNat c), AV.int IntKind.u64 (Int.ofNat n)] true (AV.bool true), Qst.val (some (AV.bool (Int.ofNat c == Int.ofNat to))) (AV.bool true)]) := by kernel_rfl
theorem end_8 (b c n to : Nat) : (runX Tryz.prog none_ 80 13 (.call 13 [.int .i64 (Int.ofNat 8), .agg (phC 0 b c n), .agg (phC 0 b c n), .int .u8 (Int.ofNat to)] (startS Tryz.prog [])) [.val 13 7 2 (.bool true), .val 13 7 12 (.bool true)]).map (fun x => (x.1.ts, x.2.2)) = some ([AV.bool true], [Qst.eqv { h := { bs := [(4, AObj.cells false [AV.int IntKind.u8 (Int.ofNat 0), AV.int IntKind.u8 (Int.ofNat b), AV.int IntKind.u8 (Int.ofNat c), AV.int IntKind.u64 (Int.ofNat n)]), (3, AObj.cells false [AV.int IntKind.u8 (Int.ofNat 0), AV.int IntKind.u8 (Int.ofNat b), AV.int IntKind.u8 (Int.ofNat c), AV.int IntKind.u64 (Int.ofNat n)])], len := 2, esc := none, wr := [] }, nx := 5 } 34 [AV.int IntKind.u8 (Int.ofNat 0), AV.int IntKind.u8 (Int.ofNat b), AV.int IntKind.u8 (Int.ofNat c), AV.int IntKind.u64 (Int.ofNat n)] [AV.int IntKind.u8 (Int.ofNat 0), AV.int IntKind.u8 (Int.ofNat b), AV.int IntKind.u8 (Int.ofNat c), AV.int IntKind.u64 (Int.ofNat n)] true (AV.bool true), Qst.val (some (AV.bool (Int.ofNat b == Int.ofNat to))) (AV.bool true)]) := by kernel_rfl
theorem end_7 (a b c n to : Nat) : (runX Tryz.prog none_ 80 13 (.call 13 [.int .i64 (Int.ofNat 7), .agg (phC a b c n), .agg (phC a b c n), .int .u8 (Int.ofNat to)] (startS Tryz.prog [])) [.val 13 9 2 (.bool true), .val 13 9 6 (.bool true)]).map (fun x => (x.1.ts, x.2.2)) = some ([AV.bool true], [Qst.eqv { h := { bs := [(4, AObj.cells false [AV.int IntKind.u8 (Int.ofNat a), AV.int IntKind.u8 (Int.ofNat b), AV.int IntKind.u8 (Int.ofNat c), AV.int IntKind.u64 (Int.ofNat n)]), (3, AObj.cells false [AV.int IntKind.u8 (Int.ofNat a), AV.int IntKind.u8 (Int.ofNat b), AV.int IntKind.u8 (Int.ofNat c), AV.int IntKind.u64 (Int.ofNat n)])], len := 2, esc := none, wr := [] }, nx := 5 } 34 [AV.int IntKind.u8 (Int.ofNat a), AV.int IntKind.u8 (Int.ofNat b), AV.int IntKind.u8 (Int.ofNat c), AV.int IntKind.u64 (Int.ofNat n)] [AV.int IntKind.u8 (Int.ofNat a), AV.int IntKind.u8 (Int.ofNat b), AV.int IntKind.u8 (Int.ofNat c), AV.int IntKind.u64 (Int.ofNat n)] true (AV.bool true), Qst.val (some (AV.bool (Int.ofNat a != Int.ofNat 0))) (AV.bool true)]) := by kernel_rfl
end Go.Proofs.YtcnfblibfndepaaGreatDoor.ctlsCover
namespace Go.Proofs.YtcnfblibfndepaaGreatDoor.ctlsCover
open Go Go.Mini
/-! ### how a switch ended; what was; rows of bytes -/
theorem eq34 (s : AS) (a b c n : Nat) : eqlA Tryz.prog s 34 (.agg (phC a b c n)) (.agg (phC a b c n)) = (bif Int.ofNat a == Int.ofNat a then (bif Int.ofNat b == Int.ofNat b then (bif Int.ofNat c == Int.ofNat c then (bif Int.ofNat n == Int.ofNat n then some true else some false) else some false) else some false) else some false) := by kernel_rfl
theorem eq34_ok (s : AS) (a b c n : Nat) : eqlA Tryz.prog s 34 (.agg (phC a b c n)) (.agg (phC a b c n)) = some true := by
  rw [eq34]
  simp only [beq_self_eq_true, _root_.cond_true]
theorem ended_q {e a b c n a' b' c' n' to : Nat} (h : endP e a b c n a' b' c' n' to) : (Qst.pure [] 13 [.int .i64 (Int.ofNat e), .agg (phC a b c n), .agg (phC a' b' c' n'), .int .u8 (Int.ofNat to)] (.bool true)).ok Tryz.prog := by
  rcases h with ⟨rfl, rfl, rfl⟩ | ⟨rfl, ⟨rfl, rfl, rfl⟩ | ⟨rfl, ⟨rfl, rfl, rfl, rfl⟩, rfl⟩⟩ | ⟨rfl, ⟨rfl, rfl, rfl, rfl⟩, rfl, rfl⟩ | ⟨rfl, ⟨rfl, rfl, rfl, rfl⟩, h0⟩
  · exact pure0 (end_0 b c n b' c' n' b' a) ⟨by simp [Qst.ok], trivial⟩ rfl rfl rfl
  · exact pure0 (end_9a b' c n b' c' n' to) ⟨by simp [Qst.ok], trivial⟩ rfl rfl rfl
  · exact pure0 (end_9b b' c' n' c') ⟨⟨true, eq34_ok _ 3 b' c' n', rfl⟩, by simp [Qst.ok], trivial⟩ rfl rfl rfl
  · exact pure0 (end_8 b' c' n' b') ⟨⟨true, eq34_ok _ 0 b' c' n', rfl⟩, by simp [Qst.ok], trivial⟩ rfl rfl rfl
  · exact pure0 (end_7 a' b' c' n' to) ⟨⟨true, eq34_ok _ a' b' c' n', rfl⟩, by
      have : (Int.ofNat a' != Int.ofNat 0) = true := by simpa using h0
      simp only [Qst.ok, this], trivial⟩ rfl rfl rfl
theorem z34 : sizeA Tryz.prog 34 = some 4 := by kernel_rfl
theorem a34 : isAggA Tryz.prog 34 = some true := by kernel_rfl
theorem ld34 {s : AS} {b a0 b0 c0 n0 : Nat} (h : s.get b = some (.cells false (phC a0 b0 c0 n0))) : loadA Tryz.prog s 34 (.ptr b 0) = some (.agg (phC a0 b0 c0 n0)) := by
  simp only [loadA, a34, z34, readA, h]
  rfl
def zero4 : AObj := .cells false [.int .u8 (Int.ofNat 0), .int .u8 (Int.ofNat 0), .int .u8 (Int.ofNat 0), .int .u64 (Int.ofNat 0)]
section
variable {M : PM} {a b c n D : Nat} {ts : Nat → TS} {X : List (Nat × AObj)} {s : AS} {w : Nat → Nat} {ψ : Nat → Nat → Nat} {tb : Nat} {Ks : List Nat}
theorem LayW.subK (h : LayW M ts X s w ψ tb Ks) {Ks' : List Nat} (hs : ∀ c ∈ Ks', c ∈ Ks) (ht : tb ∈ Ks') : LayW M ts X s w ψ tb Ks' := ⟨h.par.subK hs, ⟨ht, h.htb.2⟩, h.row, h.rch, h.big, h.keys⟩
theorem was_at (h : LayW M ts X s w ψ tb Ks) (a0 b0 c0 n0 : Nat) : ∃ s2, storeA Tryz.prog (s.push zero4) 34 (.ptr s.nx 0) (.agg (phC a0 b0 c0 n0)) = some s2 ∧ LayW M ts X s2 w ψ tb (s.nx :: Ks) ∧ s2.get s.nx = some (.cells false (phC a0 b0 c0 n0)) ∧ (∀ d ∈ Ks, s2.get d = s.get d) ∧ s.nx ≤ s2.nx := by
  have g1 : (s.push zero4).get s.nx = some zero4 := by rw [get_push, if_pos rfl]
  have k1 : ∀ k ∈ (s.push zero4).h.bs.map (·.1), k < (s.push zero4).nx := fun k hk => by
    simp only [AS.push, List.map_cons, List.mem_cons] at hk
    rcases hk with rfl | hk
    · exact Nat.lt_succ_self _
    · exact Nat.lt_succ_of_lt (h.keys k hk)
  have P1 : Par Tryz.prog GF 5 (memP M) w (CW ts X) ψ Ks (s.push zero4) := h.par.outside (X := []) gz3 (fun c hc _ => by rw [get_push, if_neg (by omega)]) (fun c hc => by cases hc) (Nat.le_succ _) k1
  have P2 := P1.addK (c := s.nx) (n := s.nx) (fun j hj x hx => (h.par.at_ j hj).lt2 hx) (Nat.le_refl _) (Nat.lt_succ_self _)
  obtain ⟨s2, e1, e2, e3⟩ := st_all (P := Tryz.prog) (t := 34) (cs := [.int .u8 (Int.ofNat 0), .int .u8 (Int.ofNat 0), .int .u8 (Int.ofNat 0), .int .u64 (Int.ofNat 0)]) (vs := phC a0 b0 c0 n0) z34 rfl rfl g1
  have htb : tb < s.nx := (h.par.ks tb h.htb.1).1
  obtain ⟨P3, k3, o3, n3⟩ := par_row P2 ⟨List.mem_cons_self, by have := h.htb.2; omega⟩ k1 e2 e3
  obtain ⟨R, hR, hRo⟩ := h.row
  have old : ∀ d, d < s.nx → s2.get d = s.get d := fun d hd => by rw [o3 d (by omega), get_push, if_neg (by omega)]
  exact ⟨s2, e1, ⟨P3, ⟨List.mem_cons_of_mem _ h.htb.1, h.htb.2⟩, ⟨R, by rw [old tb htb]; exact hR, hRo⟩, h.rch, h.big, k3⟩, n3 _ g1, fun d hd => old d (h.par.ks d hd).1, by rw [e3]; exact Nat.le_succ _⟩
theorem beqs_refl : ∀ l : List AV, AV.beqs l l = true := AV.beqs_self
theorem LayW.hasG (h : LayW M ts X s w ψ tb Ks) : hasG s GF = true := by
  have A := h.par.at_ 0 (by decide)
  unfold Go.Mini.hasG
  rw [List.all_eq_true]
  intro x hx
  obtain ⟨ro, hr⟩ := A.fz x hx
  rw [A.glob _ (gz3 x hx)] at hr
  rw [hr]
  exact beqs_refl _
end
/-- What is said of a row of bytes. -/
structure RwB (l : AV) (k : Nat) (F : List AV) (bs : List Nat) : Prop where
  len : ∀ s, lenA Tryz.prog s 22 l = some (.int .i64 (Int.ofNat bs.length))
  idx : ∀ i, i < bs.length → indexAddrA Tryz.prog 22 l (.int .i64 (Int.ofNat i)) = some (.ptr k i)
  row : ∃ r : List Nat, F = (bs ++ r).map fun n => AV.int .u8 (Int.ofNat n)
  lt : ∀ x ∈ bs, x < 256
theorem c5 : isAggA Tryz.prog 5 = some false := by kernel_rfl
theorem c22 : isAggA Tryz.prog 22 = some false := by kernel_rfl
theorem c28 : isAggA Tryz.prog 28 = some false := by kernel_rfl
theorem RwB.ld {l : AV} {k : Nat} {F : List AV} {bs : List Nat} (h : RwB l k F bs) {i : Nat} (hi : i < bs.length) {s : AS} {ro : Bool} (hs : s.get k = some (.cells ro F)) : loadA Tryz.prog s 5 (.ptr k i) = some (.int .u8 (Int.ofNat bs[i])) := by
  obtain ⟨r, e⟩ := h.row
  refine ld_cell c5 hs ?_
  rw [e, List.getElem?_map, List.getElem?_append_left hi, List.getElem?_eq_getElem hi]
  rfl
theorem w64 {a : Nat} (h : a < 1000000) : IntKind.i64.wrap (Int.ofNat a) = Int.ofNat a := i64_wrap (by simp only [Int.ofNat_eq_natCast]; omega) (by simp only [Int.ofNat_eq_natCast]; omega)
theorem idx29 (sa : Nat) : ∀ q, q < 3 → indexAddrA Tryz.prog 29 (.ptr sa 0) (.int .u8 (Int.ofNat q)) = some (.ptr sa q)
  | 0, _ => by kernel_rfl
  | 1, _ => by kernel_rfl
  | 2, _ => by kernel_rfl
  | q + 3, h => absurd h (by omega)
def scN (q : Nat) : Nat := if q = 0 then 1 else if q = 1 then 2 else 4
def SaC : List AV := [.int .u8 (Int.ofNat 1), .int .u8 (Int.ofNat 2), .int .u8 (Int.ofNat 4)]
theorem sa_at : ∀ q, q < 3 → SaC[q]? = some (.int .u8 (Int.ofNat (scN q)))
  | 0, _ => rfl
  | 1, _ => rfl
  | 2, _ => rfl
  | q + 3, h => absurd h (by omega)
theorem sc_sg (q : Nat) : sg (scN q) = true := by
  unfold scN
  split
  · rfl
  · split <;> rfl
end Go.Proofs.YtcnfblibfndepaaGreatDoor.ctlsCover
namespace Go.Proofs.YtcnfblibfndepaaGreatDoor.ctlsCover
open Go Go.Mini
/-! ### a turn of the law's loop -/
structure EnvL (zb sa lb tob tb : Nat) (lL lT l : AV) (FL FT : List AV) (bL bT : List Nat) (lk : Nat) (Ks : List Nat) : Prop where
  WL : RwB lL lb FL bL
  WT : RwB lT tob FT bT
  hT : bT ≠ []
  h9 : bL.length ≤ 900
  hl : TsL l tb
  lk : lk < 256
  kz : zb ∈ Ks ∧ zb ≠ tb
  ks : sa ∈ Ks ∧ sa ≠ tb
  kl : lb ∈ Ks ∧ lb ≠ tb
  kt : tob ∈ Ks ∧ tob ≠ tb
def KZ (zb sa lb tob : Nat) (lL lT : AV) (FL FT : List AV) (lk : Nat) (s : AS) : Prop := (∃ ro x, s.get zb = some (.cells ro [x, lT, .int .u8 (Int.ofNat lk), lL])) ∧ (∃ ro, s.get lb = some (.cells ro FL)) ∧ (∃ ro, s.get tob = some (.cells ro FT)) ∧ ∃ ro, s.get sa = some (.cells ro SaC)
def XV (xv : AV) (to : Nat) (X : List (Nat × AObj)) (ψ : Nat → Nat → Nat) (a b c n : Nat) (ts : Nat → TS) : Prop := (xv = .nilPtr ∧ (a = 0 ∨ a = 3)) ∨ (xv = .ptr (ψ 4 11) 0 ∧ ∃ (σ : SS) (lk0 : Int), XAt σ to lk0 X ∧ XI σ to lk0 a b c n ts ∧ 1 ≤ lk0 ∧ lk0 ≤ 40)
section
variable {zb sa lb tob tb : Nat} {lL lT l : AV} {FL FT : List AV} {bL bT : List Nat} {lk : Nat} {Ks : List Nat}
theorem KZ.next (E : EnvL zb sa lb tob tb lL lT l FL FT bL bT lk Ks) {s s' : AS} (h : KZ zb sa lb tob lL lT FL FT lk s) (hk : ∀ c ∈ Ks, c ≠ tb → s'.get c = s.get c) : KZ zb sa lb tob lL lT FL FT lk s' := by
  unfold KZ at h ⊢
  rw [hk zb E.kz.1 E.kz.2, hk lb E.kl.1 E.kl.2, hk tob E.kt.1 E.kt.2, hk sa E.ks.1 E.ks.2]
  exact h
variable {M : PM} {a b c n D : Nat} {ts : Nat → TS} {X : List (Nat × AObj)} {s : AS} {w : Nat → Nat} {ψ : Nat → Nat → Nat}
/-- What is looked at behind each turn. -/
theorem tail_at (h : LayW M ts X s w ψ tb Ks) (W : WI M a b c n D ts) (hl : TsL l tb) : ∃ sB sC ψC, Sound Tryz.prog (.call 10 [.ptr (w 7) 0] s) ⟨.ret, [.agg (phC a b c n)], sB⟩ ∧ (Qst.pure [] 15 [.agg (phC a b c n)] (.bool true)).ok Tryz.prog ∧ Sound Tryz.prog (.call 16 [.ptr (w 7) 0, l] sB) ⟨.ret, [.bool true], sC⟩ ∧ LayW ((M.load aP).load aP) ts X sC w ψC tb Ks ∧ WI ((M.load aP).load aP) a b c n D ts ∧ (∀ d ∈ Ks, sC.get d = s.get d) ∧ ψC 4 = ψ 4 := by
  obtain ⟨sB, ψB, b1, b2, b3, b4, b5⟩ := now_at h W
  obtain ⟨sC, ψC, c1, c2, c3, c4, c5⟩ := covered_at b2 (W.load aP) hl
  exact ⟨sB, sC, ψC, b1, mayPq a b c n true W.ph.ha W.ph.may, c1, c2, (W.load aP).load aP, fun d hd => by rw [c3 d hd, b3 d hd], by rw [c4, b4]⟩
theorem q_i {i ln : Nat} (h : i < ln) : (Qst.val (some (.bool (decide (Int.ofNat i < Int.ofNat ln)))) (.bool true)).ok Tryz.prog := by
  rw [Qst.ok, show decide (Int.ofNat i < Int.ofNat ln) = true from decide_eq_true (by simp only [Int.ofNat_eq_natCast]; omega)]
theorem q_w {y : Nat} (h : y < 1000000) : (Qst.val (some (.int .i64 (IntKind.i64.wrap (Int.ofNat y)))) (.int .i64 (Int.ofNat y))).ok Tryz.prog := by rw [Qst.ok, w64 h]
theorem q_k {k : Nat} {v : Bool} (h : decide (k < 4) = v) : (Qst.val (some (.bool (decide (Int.ofNat k < 4)))) (.bool v)).ok Tryz.prog := by
  rw [Qst.ok, ← h]
  congr 2
  simp only [Int.ofNat_eq_natCast, decide_eq_decide]
  omega
def TurnOk (zb sa lb tob tb : Nat) (lL lT l : AV) (FL FT : List AV) (lk : Nat) (Ks : List Nat) (D : Nat) (s : AS) (w : Nat → Nat) (xv : AV) (to many i : Nat) (j : Nat → AV) : Prop :=
  ∃ to' many' xv' ts' X' a' b' c' n' M' s' ψ' j', Sound Tryz.prog (.code (loopAt Tryz.prog 3 1) (TL zb (w 7) sa l xv to many i j) s) ⟨.normal, TL zb (w 7) sa l xv' to' many' (i + 1) j', s'⟩ ∧ LayW M' ts' X' s' w ψ' tb Ks ∧ WI M' a' b' c' n' (D + 1) ts' ∧ KZ zb sa lb tob lL lT FL FT lk s' ∧ XV xv' to' X' ψ' a' b' c' n' ts' ∧ many' ≤ many + 1
theorem turn_th (E : EnvL zb sa lb tob tb lL lT l FL FT bL bT lk Ks) (h : LayW M ts X s w ψ tb Ks) (W : WI M a b c n D ts) (hZ : KZ zb sa lb tob lL lT FL FT lk s) {xv : AV} {to many i : Nat} (hx : XV xv to X ψ a b c n ts) (hi : i < bL.length) (hk : bL[i] % 5 < 4) (j : Nat → AV) :
    TurnOk zb sa lb tob tb lL lT l FL FT lk Ks D s w xv to many i j := by
  obtain ⟨⟨rz, x0, gz0⟩, ⟨rl, gl⟩, _, _⟩ := id hZ
  have h9 := E.h9
  have hy : bL[i] < 256 := E.WL.lt _ (List.getElem_mem hi)
  obtain ⟨s1, ψ1, t1, L1, K1, p1, n1⟩ := tstep_at h W hk
  have W1 := W.thread hk
  obtain ⟨s2, s3, ψ3, u1, u2, u3, L3, W3, K3, p3⟩ := tail_at L1 W1 E.hl
  have ldL : loadA Tryz.prog s 22 (.ptr zb 3) = some lL := ld_cell c22 gz0 rfl
  have hZ3 := hZ.next E (fun d hd hne => (K3 d hd).trans (K1 d hd hne))
  rcases hx with ⟨rfl, ha⟩ | ⟨rfl, σ, lk0, hX, hI, q1, q2⟩
  · obtain ⟨j', hs⟩ := run_TL (lw_t s s1 s2 s3 s s s s zb (w 7) sa l to many i 0 j lL lT bL.length lb i bL[i] (bL[i] % 5) 0 0 0 0 0 0 0 0 0 0 0 0 0 (i + 1) tb (3 * (bL[i] % 5)) [] (phC a b c n)) ⟨ldL, E.WL.len s, q_i hi, ldL, E.WL.idx i hi, E.WL.ld hi gl, q_w (by omega), rfl, q_k (decide_eq_true hk), E.hl.idx _ hk, t1, u1, u2, u3, q_w (by omega), trivial⟩
    exact ⟨to, many, .nilPtr, _, X, a, b, c, n, _, s3, ψ3, j', hs, L3, W3.mono (Nat.le_succ D), hZ3, .inl ⟨rfl, ha⟩, Nat.le_succ _⟩
  · obtain ⟨j', hs⟩ := run_TL (lw_tx s s1 s2 s3 s s s s zb (w 7) sa l to many i (ψ 4 11) j lL lT bL.length lb i bL[i] (bL[i] % 5) 0 0 0 0 0 0 0 0 0 0 0 0 0 (i + 1) tb (3 * (bL[i] % 5)) [] (phC a b c n)) ⟨ldL, E.WL.len s, q_i hi, ldL, E.WL.idx i hi, E.WL.ld hi gl, q_w (by omega), rfl, q_k (decide_eq_true hk), E.hl.idx _ hk, t1, u1, u2, u3, q_w (by omega), trivial⟩
    exact ⟨to, many, _, _, X, a, b, c, n, _, s3, ψ3, j', hs, L3, W3.mono (Nat.le_succ D), hZ3, .inr ⟨by rw [p3, p1], σ, lk0, hX, hI.thread W hk, q1, q2⟩, Nat.le_succ _⟩
theorem turn_x (E : EnvL zb sa lb tob tb lL lT l FL FT bL bT lk Ks) (h : LayW M ts X s w ψ tb Ks) (W : WI M a b c n D ts) (hD : D < 100000) (hZ : KZ zb sa lb tob lL lT FL FT lk s) {to many i : Nat} {σ : SS} {lk0 : Int} (hX : XAt σ to lk0 X) (hI : XI σ to lk0 a b c n ts) (q1 : 1 ≤ lk0) (q2 : lk0 ≤ 40) (hi : i < bL.length) (hk : ¬ bL[i] % 5 < 4) (j : Nat → AV) :
    TurnOk zb sa lb tob tb lL lT l FL FT lk Ks D s w (.ptr (ψ 4 11) 0) to many i j := by
  obtain ⟨⟨rz, x0, gz0⟩, ⟨rl, gl⟩, _, _⟩ := id hZ
  have h9 := E.h9
  have hy : bL[i] < 256 := E.WL.lt _ (List.getElem_mem hi)
  have ldL : loadA Tryz.prog s 22 (.ptr zb 3) = some lL := ld_cell c22 gz0 rfl
  obtain ⟨s1, ψ1, a1, L1, K1, p1, n1⟩ := now_at h W
  obtain ⟨s2, e1, L2, gw, K2, n2⟩ := was_at L1 a b c n
  have Wl := W.load aP
  obtain ⟨s4, ψ4, X4, d1, hX4, L4, K4, p4, n4⟩ := swl_at L2 Wl hX hI.ok
  rw [p1] at d1 p4
  obtain ⟨a', b', c', n', W', fl, fz⟩ := sw_step Wl hD hI (by omega) q2
  have inK : ∀ d ∈ Ks, d ∈ s1.nx :: Ks := fun d hd => List.mem_cons_of_mem _ hd
  by_cases h0 : (σ.step to lk0 (M.load aP)).1.ln = 0
  · rw [decide_eq_true h0] at d1
    have g1 := gotl_at L4 hX4 h0
    rw [p4] at g1
    obtain ⟨hz, hend⟩ := fz h0
    obtain ⟨s5, ψ5, v1, L5, K5, p5, n5⟩ := now_at L4 W'
    obtain ⟨s6, s7, ψ7, u1, u2, u3, L7, W7, K7, p7⟩ := tail_at L5 (W'.load aP) E.hl
    have w4 : s4.get s1.nx = some (.cells false (phC a b c n)) := by rw [K4 _ List.mem_cons_self]; exact gw
    have w5 : s5.get s1.nx = some (.cells false (phC a b c n)) := by rw [K5 _ List.mem_cons_self]; exact w4
    obtain ⟨j', hs⟩ := run_TL (lw_xo s s1 s2 s s4 s5 s6 s7 zb (w 7) sa l to many i (ψ 4 11) j lL lT bL.length lb i bL[i] (bL[i] % 5) 0 0 0 0 0 0 0 0 0 0 0 0 (σ.step to lk0 (M.load aP)).1.en (i + 1) tb 0 (phC a b c n) (phC a' b' c' n')) ⟨ldL, E.WL.len s, q_i hi, ldL, E.WL.idx i hi, E.WL.ld hi gl, q_w (by omega), rfl, q_k (decide_eq_false hk), a1, ⟨e1, rfl⟩, d1, ld34 w4, g1, v1, ended_q hend s5 rfl, ld34 w4, ld34 w4, ld34 w5, u1, u2, u3, q_w (by omega), trivial⟩
    exact ⟨to, many, .nilPtr, _, X4, a', b', c', n', _, s7, ψ7, j', hs, L7.subK inK h.htb.1, W7, hZ.next E (fun d hd _ => by rw [K7 d (inK d hd), K5 d (inK d hd), K4 d (inK d hd), K2 d hd, K1 d hd]), .inl ⟨rfl, hz⟩, Nat.le_succ _⟩
  · rw [decide_eq_false h0] at d1
    obtain ⟨s5, s6, ψ6, u1, u2, u3, L6, W6, K6, p6⟩ := tail_at L4 W' E.hl
    obtain ⟨j', hs⟩ := run_TL (lw_xg s s1 s2 s s4 s5 s6 s zb (w 7) sa l to many i (ψ 4 11) j lL lT bL.length lb i bL[i] (bL[i] % 5) 0 0 0 0 0 0 0 0 0 0 0 0 0 (i + 1) tb 0 (phC a b c n) (phC a' b' c' n')) ⟨ldL, E.WL.len s, q_i hi, ldL, E.WL.idx i hi, E.WL.ld hi gl, q_w (by omega), rfl, q_k (decide_eq_false hk), a1, ⟨e1, rfl⟩, d1, u1, u2, u3, q_w (by omega), trivial⟩
    exact ⟨to, many, _, _, X4, a', b', c', n', _, s6, ψ6, j', hs, L6.subK inK h.htb.1, W6, hZ.next E (fun d hd _ => by rw [K6 d (inK d hd), K4 d (inK d hd), K2 d hd, K1 d hd]), .inr ⟨by rw [p6, p4], _, lk0, hX4, fl h0, q1, q2⟩, Nat.le_succ _⟩
theorem turn_n (E : EnvL zb sa lb tob tb lL lT l FL FT bL bT lk Ks) (h : LayW M ts X s w ψ tb Ks) (W : WI M a b c n D ts) (hZ : KZ zb sa lb tob lL lT FL FT lk s) {to many i : Nat} (ha : a = 0 ∨ a = 3) (hm : many ≤ 1000) (hi : i < bL.length) (hk : ¬ bL[i] % 5 < 4) (j : Nat → AV) :
    TurnOk zb sa lb tob tb lL lT l FL FT lk Ks D s w .nilPtr to many i j := by
  obtain ⟨⟨rz, x0, gz0⟩, ⟨rl, gl⟩, _, _⟩ := id hZ
  have h9 := E.h9
  have hy : bL[i] < 256 := E.WL.lt _ (List.getElem_mem hi)
  have ldL : loadA Tryz.prog s 22 (.ptr zb 3) = some lL := ld_cell c22 gz0 rfl
  obtain ⟨s1, ψ1, a1, L1, K1, p1, n1⟩ := now_at h W
  obtain ⟨s2, e1, L2, gw, K2, n2⟩ := was_at L1 a b c n
  have Wl := W.load aP
  have hZ2 := hZ.next E (s' := s2) (fun d hd _ => by rw [K2 d hd, K1 d hd])
  obtain ⟨⟨rz2, x2, gz2⟩, _, ⟨rt, gt⟩, ⟨ra, ga⟩⟩ := id hZ2
  have ldT : loadA Tryz.prog s2 22 (.ptr zb 1) = some lT := ld_cell c22 gz2 rfl
  have ldk : loadA Tryz.prog s2 5 (.ptr zb 2) = some (.int .u8 (Int.ofNat lk)) := ld_cell c5 gz2 rfl
  have hlk := E.lk
  obtain ⟨nt, hnt⟩ : ∃ nt, bT.length = nt + 1 := ⟨bT.length - 1, by have := List.length_pos_iff.2 E.hT; omega⟩
  have hr : many % (nt + 1) < bT.length := by rw [hnt]; exact Nat.mod_lt _ (by omega)
  have hq : bT[many % (nt + 1)] % 3 < 3 := Nat.mod_lt _ (by decide)
  have lnT : ∀ s, lenA Tryz.prog s 22 lT = some (.int .i64 (Int.ofNat (nt + 1))) := fun s => by rw [← hnt]; exact E.WT.len s
  have lds := ld_cell (P := Tryz.prog) c28 ga (sa_at _ hq)
  have lq : lk % 12 < 12 := Nat.mod_lt _ (by decide)
  obtain ⟨s3, ψ3, X3, m1, hX3, L3, K3, n3⟩ := news_at L2 (scN (bT[many % (nt + 1)] % 3)) (Int.ofNat (1 + lk % 12))
  have sg1 := sc_sg (bT[many % (nt + 1)] % 3)
  have l0 : (-9223372036854775808 : Int) ≤ Int.ofNat (1 + lk % 12) := by simp only [Int.ofNat_eq_natCast]; omega
  have l1 : Int.ofNat (1 + lk % 12) ≤ 40 := by simp only [Int.ofNat_eq_natCast]; omega
  have l2 : 1 ≤ Int.ofNat (1 + lk % 12) := by simp only [Int.ofNat_eq_natCast]; omega
  generalize hto : scN (bT[many % (nt + 1)] % 3) = t1 at *
  have ht : t1 < 256 := by rcases sg_cases sg1 with rfl | rfl | rfl <;> decide
  generalize hlk1 : 1 + lk % 12 = k1 at *
  have hO : SS.Ok ⟨1, 4, 0, -1, 0, 0, 0, 0, newB 0 (Int.ofNat k1)⟩ t1 (Int.ofNat k1) := ⟨(show (1 : Nat) ≤ 1 ∧ (1 : Nat) ≤ 8 from by decide), rfl, (show (0 : Nat) < 18446744073709551616 from by decide), (show (0 : Nat) ≤ 3 from by decide), (show (0 : Nat) < 256 from by decide), (show (0 : Nat) < 256 from by decide), (show (0 : Nat) < 281474976710656 from by decide), ht, fun h => by cases h⟩
  obtain ⟨s4, ψ4, X4, d1, hX4, L4, K4, p4, n4⟩ := swl_at L3 Wl hX3 hO
  obtain ⟨fl, fz, fm⟩ := sw_first (M := M.load aP) Wl ha sg1 l0 l1 hO rfl
  have W' : WI (SS.step ⟨1, 4, 0, -1, 0, 0, 0, 0, newB 0 (Int.ofNat k1)⟩ t1 (Int.ofNat k1) (M.load aP)).2 a b c n D ts := by rw [fm]; exact Wl.load aP
  have inK : ∀ d ∈ Ks, d ∈ s1.nx :: Ks := fun d hd => List.mem_cons_of_mem _ hd
  by_cases h0 : (SS.step ⟨1, 4, 0, -1, 0, 0, 0, 0, newB 0 (Int.ofNat k1)⟩ t1 (Int.ofNat k1) (M.load aP)).1.ln = 0
  · rw [decide_eq_true h0] at d1
    have g1 := gotl_at L4 hX4 h0
    rw [p4] at g1
    have hend := fz h0
    obtain ⟨s5, ψ5, v1, L5, K5, p5, n5⟩ := now_at L4 W'
    obtain ⟨s6, s7, ψ7, u1, u2, u3, L7, W7, K7, p7⟩ := tail_at L5 (W'.load aP) E.hl
    have w4 : s4.get s1.nx = some (.cells false (phC a b c n)) := by rw [K4 _ List.mem_cons_self, K3 _ List.mem_cons_self]; exact gw
    have w5 : s5.get s1.nx = some (.cells false (phC a b c n)) := by rw [K5 _ List.mem_cons_self]; exact w4
    obtain ⟨j', hs⟩ := run_TL (lw_no s s1 s2 s3 s4 s5 s6 s7 zb (w 7) sa l to many i (ψ3 4 11) j lL lT bL.length lb i bL[i] (bL[i] % 5) (nt + 1) (many % (nt + 1)) tob (many % (nt + 1)) bT[many % (nt + 1)] (bT[many % (nt + 1)] % 3) (bT[many % (nt + 1)] % 3) t1 (many + 1) lk (lk % 12) k1 (SS.step ⟨1, 4, 0, -1, 0, 0, 0, 0, newB 0 (Int.ofNat k1)⟩ t1 (Int.ofNat k1) (M.load aP)).1.en (i + 1) tb 0 (phC a b c n) (phC a b c n)) ⟨ldL, E.WL.len s, q_i hi, ldL, E.WL.idx i hi, E.WL.ld hi gl, q_w (by omega), rfl, q_k (decide_eq_false hk), a1, ⟨e1, rfl⟩, ldT, ldT, lnT s2, rfl, E.WT.idx _ hr, E.WT.ld hr gt, rfl, idx29 sa _ hq, lds, lds, E.WT.ld hr gt, lnT s2, ldT, ldT, q_w (by omega), ldk, rfl, q_w (by omega), by rw [← hlk1]; exact q_w (by omega), m1, d1, ld34 w4, g1, v1, ended_q hend s5 rfl, ld34 w4, ld34 w4, ld34 w5, u1, u2, u3, q_w (by omega), trivial⟩
    exact ⟨t1, many + 1, .nilPtr, _, X4, a, b, c, n, _, s7, ψ7, j', hs, L7.subK inK h.htb.1, W7.mono (Nat.le_succ D), hZ.next E (fun d hd _ => by rw [K7 d (inK d hd), K5 d (inK d hd), K4 d (inK d hd), K3 d (inK d hd), K2 d hd, K1 d hd]), .inl ⟨rfl, ha⟩, Nat.le_refl _⟩
  · rw [decide_eq_false h0] at d1
    obtain ⟨s5, s6, ψ6, u1, u2, u3, L6, W6, K6, p6⟩ := tail_at L4 W' E.hl
    obtain ⟨j', hs⟩ := run_TL (lw_ng s s1 s2 s3 s4 s5 s6 s zb (w 7) sa l to many i (ψ3 4 11) j lL lT bL.length lb i bL[i] (bL[i] % 5) (nt + 1) (many % (nt + 1)) tob (many % (nt + 1)) bT[many % (nt + 1)] (bT[many % (nt + 1)] % 3) (bT[many % (nt + 1)] % 3) t1 (many + 1) lk (lk % 12) k1 0 (i + 1) tb 0 (phC a b c n) (phC a b c n)) ⟨ldL, E.WL.len s, q_i hi, ldL, E.WL.idx i hi, E.WL.ld hi gl, q_w (by omega), rfl, q_k (decide_eq_false hk), a1, ⟨e1, rfl⟩, ldT, ldT, lnT s2, rfl, E.WT.idx _ hr, E.WT.ld hr gt, rfl, idx29 sa _ hq, lds, lds, E.WT.ld hr gt, lnT s2, ldT, ldT, q_w (by omega), ldk, rfl, q_w (by omega), by rw [← hlk1]; exact q_w (by omega), m1, d1, u1, u2, u3, q_w (by omega), trivial⟩
    exact ⟨t1, many + 1, _, _, X4, a, b, c, n, _, s6, ψ6, j', hs, L6.subK inK h.htb.1, W6.mono (Nat.le_succ D), hZ.next E (fun d hd _ => by rw [K6 d (inK d hd), K4 d (inK d hd), K3 d (inK d hd), K2 d hd, K1 d hd]), .inr ⟨by rw [p6, p4], _, Int.ofNat k1, hX4, fl h0, l2, l1⟩, Nat.le_refl _⟩
/-- The loop. -/
theorem law_loop (E : EnvL zb sa lb tob tb lL lT l FL FT bL bT lk Ks) : ∀ (d i to many D : Nat) (xv : AV) (ts : Nat → TS) (X : List (Nat × AObj)) (a b c n : Nat) (M : PM) (s : AS) (ψ : Nat → Nat → Nat) (j : Nat → AV), bL.length - i = d → i ≤ bL.length → D ≤ i → many ≤ i → LayW M ts X s w ψ tb Ks → WI M a b c n D ts → KZ zb sa lb tob lL lT FL FT lk s → XV xv to X ψ a b c n ts →
    ∃ to' many' xv' s' j', Sound Tryz.prog (.code (.loop (loopAt Tryz.prog 3 1)) (TL zb (w 7) sa l xv to many i j) s) ⟨.exit 2, TL zb (w 7) sa l xv' to' many' bL.length j', s'⟩ ∧ hasG s' GF = true := by
  intro d
  have h9 := E.h9
  induction d with
  | zero =>
    intro i to many D xv ts X a b c n M s ψ j hd hi hD hm L W Z V
    obtain rfl : i = bL.length := by omega
    obtain ⟨⟨rz, x0, gz0⟩, _⟩ := id Z
    have ldL : loadA Tryz.prog s 22 (.ptr zb 3) = some lL := ld_cell c22 gz0 rfl
    have q : (Qst.val (some (.bool (decide (Int.ofNat bL.length < Int.ofNat bL.length)))) (.bool false)).ok Tryz.prog := by
      rw [Qst.ok, show decide (Int.ofNat bL.length < Int.ofNat bL.length) = false from decide_eq_false (by omega)]
    rcases V with ⟨rfl, _⟩ | ⟨rfl, _⟩
    · obtain ⟨j', hs⟩ := run_TL (lw_end s s s s s s s s zb (w 7) sa l to many bL.length 0 j lL lT bL.length lb 0 0 0 0 0 0 0 0 0 0 0 0 0 0 0 0 0 tb 0 [] (phC a b c n)) ⟨ldL, E.WL.len s, q, trivial⟩
      exact ⟨to, many, _, s, j', loop_stop hs (by simp), L.hasG⟩
    · obtain ⟨j', hs⟩ := run_TL (lw_endx s s s s s s s s zb (w 7) sa l to many bL.length (ψ 4 11) j lL lT bL.length lb 0 0 0 0 0 0 0 0 0 0 0 0 0 0 0 0 0 tb 0 [] (phC a b c n)) ⟨ldL, E.WL.len s, q, trivial⟩
      exact ⟨to, many, _, s, j', loop_stop hs (by simp), L.hasG⟩
  | succ d ih =>
    intro i to many D xv ts X a b c n M s ψ j hd hi hD hm L W Z V
    have hlt : i < bL.length := by omega
    have T : TurnOk zb sa lb tob tb lL lT l FL FT lk Ks D s w xv to many i j := by
      by_cases hk : bL[i] % 5 < 4
      · exact turn_th E L W Z V hlt hk j
      · rcases V with ⟨rfl, ha⟩ | ⟨rfl, σ, lk0, hX, hI, q1, q2⟩
        · exact turn_n E L W Z ha (by omega) hlt hk j
        · exact turn_x E L W (by omega) Z hX hI q1 q2 hlt hk j
    obtain ⟨to', many', xv', ts', X', a', b', c', n', M', s', ψ', j', hs, L', W', Z', V', hm'⟩ := T
    obtain ⟨to2, many2, xv2, s2, j2, h2, hg⟩ := ih (i + 1) to' many' (D + 1) xv' ts' X' a' b' c' n' M' s' ψ' j' (by omega) (by omega) (by omega) (by omega) L' W' Z' V'
    exact ⟨to2, many2, xv2, s2, j2, loop_next hs h2, hg⟩
end
end Go.Proofs.YtcnfblibfndepaaGreatDoor.ctlsCover
