/- The law SpecsJudge answers true, for all arguments. Conditions: those that each theorem names, and no others. -/
import Derived.Test.YthooafgfpnedhaaJud39
namespace Go.Proofs.Ythooafgfpnedhaa.specsJudge
open Go Go.Mini
section
variable {L : List Call9} {n c : Nat} (h1 : n ≤ L.length) (hs : n ≤ 100) (hn : 0 < n) (hB : ∀ z ∈ L, Byt z)
include h1 hs hn hB
theorem j_main : ∃ e s1, Sound Try.prog (.call 5 [.slice 0 0 n c] ⟨⟨[(0, .cells true (rowsOf callC L))], 1, none, []⟩, 1⟩) ⟨e, [.bool true], s1⟩ := by
  have W := rwc_sl L n c h1 (by omega)
  have hA : (L.take n).length = n := by rw [List.length_take]; omega
  have hA' : (L.take n).length ≤ 1000 := by omega
  have hopW : ∀ d, d < n → (fA (L.take n) d).2.1 = Int.ofNat (fA (L.take n) d).2.1.toNat := fun d hd => by
    have := (hB _ (fA_mem h1 hd)).1.1
    simp only [Int.ofNat_eq_natCast]
    omega
  obtain ⟨D, p1, q1, w1⟩ := witC W
  obtain ⟨D2, p2, q2, w2⟩ := witO hA'
  obtain ⟨D3, p3, q3, w3⟩ := judgeC W (opN := fun d => (fA (L.take n) d).2.1.toNat) hopW
  obtain ⟨D4, p4, q4, w4⟩ := judgeO (A := L.take n) (opN := fun d => (fA (L.take n) d).2.1.toNat) (by rw [hA]; exact hopW) hA'
  rw [hA] at p2 p4 w2 w4
  have e2 : D2 = D := srt_unique q2 q1 (p2.trans p1.symm)
  have e3 : D3 = D := srt_unique q3 q1 (p3.trans p1.symm)
  have e4 : D4 = D := srt_unique q4 q1 (p4.trans p1.symm)
  subst e2
  rw [e3] at w3
  rw [e4] at w4
  have hD : D2.length ≤ 1000 := by
    rw [p1.length_eq]
    exact Nat.le_trans (livesTo_len _) (by omega)
  rw [judge_rel (fA (L.take n)) _ D2 rel0] at w3
  obtain ⟨y26, y27, lp⟩ := loopL (c := c) h1 hs hn hB
  have lp' : Sound Try.prog (.code (.loop (loopAt Try.prog 5 0)) [.slice 0 0 n c, .tuple [], .bool false, .nilSlice, .int .i64 (Int.ofNat 0), .tuple [], .tuple [], .tuple [], .tuple [], .tuple [], .tuple [], .tuple [], .slice 0 0 n c, .int .i64 (Int.ofNat n), .bool false, .tuple [], .tuple [], .tuple [], .tuple [], .tuple [], .tuple [], .tuple [], .tuple [], .tuple [], .tuple [], .tuple [], .tuple [], .tuple [], .tuple [], .tuple [], .tuple [], .tuple [], .tuple [], .tuple [], .tuple [], .tuple [], .tuple [], .tuple [], .tuple [], .tuple [], .tuple [], .tuple [], .tuple [], .tuple [], .tuple [], .tuple [], .tuple [], .tuple [], .tuple [], .tuple [], .tuple [], .tuple [], .tuple [], .tuple [], .tuple [], .tuple [], .tuple [], .tuple [], .tuple [], .tuple [], .tuple [], .tuple [], .tuple [], .tuple [], .tuple [], .tuple [], .tuple [], .tuple [], .tuple [], .tuple [], .tuple [], .tuple [], .tuple [], .tuple [], .tuple [], .tuple [], .tuple [], .tuple [], .tuple [], .tuple []] ⟨⟨[(0, .cells true (rowsOf callC L))], 1, none, []⟩, 1⟩) ⟨.exit 0, TL (.slice 0 0 n c) (.osl 1 0 n 9) y26 y27 n, ⟨⟨[(1, .cells false (co (L.take n))), (0, .cells true (rowsOf callC L))], 2, none, []⟩, 2⟩⟩ := by
    refine Sound.enter lp ?_
    unfold TL
    repeat (first | exact rfl | refine ⟨_, _, rfl, ?_, ?_⟩ | exact .inr ⟨rfl, rfl⟩ | exact .inl ⟨rfl, rfl⟩ | exact see_same _)
  have c1 := w1 ⟨⟨[(1, .cells false (co (L.take n))), (0, .cells true (rowsOf callC L))], 2, none, []⟩, 2⟩ true 0 rfl
  have c2 := w2 ⟨⟨[(2, oWit D2), (1, .cells false (co (L.take n))), (0, .cells true (rowsOf callC L))], 3, none, []⟩, 3⟩ false 1 rfl
  have c3 := w3 ⟨⟨[(3, oWit D2), (2, oWit D2), (1, .cells false (co (L.take n))), (0, .cells true (rowsOf callC L))], 4, none, []⟩, 4⟩ true 0 rfl
  have c4 := w4 ⟨⟨[(3, oWit D2), (2, oWit D2), (1, .cells false (co (L.take n))), (0, .cells true (rowsOf callC L))], 4, none, []⟩, 4⟩ false 1 rfl
  have c5 := sameC (c := c) h1 hs hB (s := ⟨⟨[(3, oWit D2), (2, oWit D2), (1, .cells false (co (L.take n))), (0, .cells true (rowsOf callC L))], 4, none, []⟩, 4⟩) rfl rfl
  have g0 := gtq n 100 false (by simp; omega)
  obtain ⟨jA, jc, ej⟩ : ∃ jA jc, judgeV (judgeD (fA (L.take n)) (fun d => (fA (L.take n) d).2.1.toNat) D2 ([], [], [])) = .tuple [.int .i64 jA, .bool jc] := by
    unfold judgeV
    split
    · exact ⟨_, _, rfl⟩
    · exact ⟨_, _, rfl⟩
  rw [ej] at c3 c4
  by_cases h0 : D2 = []
  · rw [show ∀ b, wv D2 b = .nilSlice from fun b => if_pos h0] at c1
    rw [show ∀ b, ovD D2 b = .nilSlice from fun b => if_pos h0] at c2
    exact ⟨_, _, runX_sound mixed none_sound (l_none (.slice 0 0 n c) .nilFunc y26 y27 n 0 0 0 0 0 jc jA 0 0 0 0 0 0 0 0 0 (.cells true (rowsOf callC L)) (.cells false (co (L.take n))) .dead (oWit D2) (oWit D2) [] []) ⟨W.len _, g0, lp', c1, c2, c3, c4, bq (by simp), bq (by simp), c5, livC _, trivial⟩⟩
  · rw [show ∀ b, wv D2 b = .slice b 0 D2.length D2.length from fun b => if_neg h0] at c1
    rw [show ∀ b, ovD D2 b = .osl b 0 D2.length 1 from fun b => if_neg h0] at c2
    have eo : oWit D2 = .cells false (nc D2) := if_neg h0
    rw [eo] at c1 c2 c3 c4 c5
    have lc := cmp_loop (lA := .slice 0 0 n c) (av := .osl 1 0 n 9) (x26 := y26) (x27 := y27) (oA := .cells false (co (L.take n))) (o0 := .cells true (rowsOf callC L)) hD D2.length 0 rfl (Nat.zero_le _) none none []
    refine ⟨_, _, runX_sound mixed none_sound (l_main (.slice 0 0 n c) .nilFunc y26 y27 n 0 0 0 0 D2.length jc jA 0 0 0 0 0 0 0 0 0 (.cells true (rowsOf callC L)) (.cells false (co (L.take n))) .dead (.cells false (nc D2)) (.cells false (nc D2)) [] []) ⟨W.len _, g0, lp', c1, c2, bq (by simp), ?_, c3, c4, bq (by simp), bq (by simp), c5, livC _, trivial⟩⟩
    refine Sound.enter lc ?_
    unfold TC
    repeat (first | exact rfl | refine ⟨_, _, rfl, ?_, ?_⟩ | exact .inr ⟨rfl, rfl⟩ | exact .inl ⟨rfl, rfl⟩ | exact see_same _)
end
theorem j_any {L : List Call9} {n c : Nat} (h1 : n ≤ L.length) (hB : ∀ z ∈ L, Byt z) : ∃ e s1, Sound Try.prog (.call 5 [.slice 0 0 n c] ⟨⟨[(0, .cells true (rowsOf callC L))], 1, none, []⟩, 1⟩) ⟨e, [.bool true], s1⟩ := by
  by_cases hs : n ≤ 100
  · by_cases h0 : n = 0
    · subst h0
      exact ⟨_, _, runX_sound mixed none_sound (l_z1 .nilFunc .nilFunc .nilFunc .nilFunc 0 0 0 c 0 0 false 0 0 0 0 0 0 0 0 0 0 (.cells true (rowsOf callC L)) .dead .dead .dead .dead [] []) ⟨livC _, trivial⟩⟩
    · exact j_main h1 hs (by omega) hB
  · exact ⟨_, _, runX_sound mixed none_sound (l_e (.slice 0 0 n c) .nilFunc .nilFunc .nilFunc n 0 0 0 0 0 false 0 0 0 0 0 0 0 0 0 0 (.cells true (rowsOf callC L)) .dead .dead .dead .dead [] []) ⟨by simp only [Qst.ok, lenA, t50]; rfl, gtq n 100 true (by simp; omega), livC _, trivial⟩⟩
theorem j_nil : ∃ e s1, Sound Try.prog (.call 5 [.nilSlice] ⟨⟨[], 0, none, []⟩, 0⟩) ⟨e, [.bool true], s1⟩ :=
  ⟨_, _, Sound.phantom (.cells true []) (runX_sound mixed none_sound (l_z0 .nilFunc .nilFunc .nilFunc .nilFunc 0 0 0 0 0 0 false 0 0 0 0 0 0 0 0 0 0 (.cells true []) .dead .dead .dead .dead [] []) ⟨livC _, trivial⟩)⟩
theorem rows_call : ∀ (rows : List (List SD)) (s : AS), Tyss rows [.int .i64, .int .u8, .int .u64, .int .u64, .int .u8, .int .u64, .int .i64, .int .i64, .int .i64] → ∃ L : List Call9, absRows rows s = (rowsOf callC L, s) ∧ L.length = rows.length ∧ ∀ z ∈ L, Byt z
  | [], s, _ => ⟨[], rfl, rfl, by simp⟩
  | r :: rs, s, h => by
    obtain ⟨h1, h2⟩ := h
    obtain ⟨L, e1, e2, e3⟩ := rows_call rs s h2
    match r, h1 with
    | [x1, x2, x3, x4, x5, x6, x7, x8, x9], ⟨k1, k2, k3, k4, k5, k6, k7, k8, k9, _⟩ =>
      cases x1 <;> simp only [Ty] at k1
      cases x2 <;> simp only [Ty] at k2
      cases x3 <;> simp only [Ty] at k3
      cases x4 <;> simp only [Ty] at k4
      cases x5 <;> simp only [Ty] at k5
      cases x6 <;> simp only [Ty] at k6
      cases x7 <;> simp only [Ty] at k7
      cases x8 <;> simp only [Ty] at k8
      cases x9 <;> simp only [Ty] at k9
      obtain ⟨rfl, w1⟩ := k1
      obtain ⟨rfl, w2⟩ := k2
      obtain ⟨rfl, w3⟩ := k3
      obtain ⟨rfl, w4⟩ := k4
      obtain ⟨rfl, w5⟩ := k5
      obtain ⟨rfl, w6⟩ := k6
      obtain ⟨rfl, w7⟩ := k7
      obtain ⟨rfl, w8⟩ := k8
      obtain ⟨rfl, w9⟩ := k9
      rename_i n1 n2 n3 n4 n5 n6 n7 n8 n9
      have b2 := bounds_u8 w2
      have b5 := bounds_u8 w5
      refine ⟨(n1, n2, n3, n4, n5, n6, n7, n8, n9) :: L, ?_, by simp [e2], fun z hz => ?_⟩
      · have e4 : absCs [.i .i64 n1, .i .u8 n2, .i .u64 n3, .i .u64 n4, .i .u8 n5, .i .u64 n6, .i .i64 n7, .i .i64 n8, .i .i64 n9] s = (callC (n1, n2, n3, n4, n5, n6, n7, n8, n9), s) := by
          simp only [absCs, absC, callC]
        show ((absCs [.i .i64 n1, .i .u8 n2, .i .u64 n3, .i .u64 n4, .i .u8 n5, .i .u64 n6, .i .i64 n7, .i .i64 n8, .i .i64 n9] s).1 ++ (absRows rs (absCs [.i .i64 n1, .i .u8 n2, .i .u64 n3, .i .u64 n4, .i .u8 n5, .i .u64 n6, .i .i64 n7, .i .i64 n8, .i .i64 n9] s).2).1, (absRows rs (absCs [.i .i64 n1, .i .u8 n2, .i .u64 n3, .i .u64 n4, .i .u8 n5, .i .u64 n6, .i .i64 n7, .i .i64 n8, .i .i64 n9] s).2).2) = _
        rw [e4]
        simp only [e1]
        rfl
      · rcases List.mem_cons.1 hz with rfl | hz
        · exact ⟨⟨b2.1, by have := b2.2; omega⟩, ⟨b5.1, by have := b5.2; show n5 ≤ 255; omega⟩⟩
        · exact e3 z hz
def jpks : List Pk := [⟨false, [.sl [.int .i64, .int .u8, .int .u64, .int .u64, .int .u8, .int .u64, .int .i64, .int .i64, .int .i64]]⟩]
theorem jmain (xs : List (Bool × List SD)) (h : Fits xs jpks) : ∃ e s1, Sound Try.prog (.call 5 (absArgs xs (startS Try.prog [])).1 (absArgs xs (startS Try.prog [])).2) ⟨e, [.bool true], s1⟩ := by
  match xs, h with
  | [(b1, [u1])], ⟨g1, ⟨k1, _⟩, _⟩ =>
    simp only at g1 k1
    subst g1
    have e0 : startS Try.prog [] = ⟨⟨[], 0, none, []⟩, 0⟩ := by
      show (⟨⟨[], 0, none, []⟩, Try.prog.globals.size⟩ : AS) = _
      rw [noG]
    rw [e0]
    cases u1 with
    | nil => exact j_nil
    | sl rows len =>
      simp only [Ty] at k1
      obtain ⟨l1, l2, l3⟩ := k1
      obtain ⟨L, e1, e2, e3⟩ := rows_call rows ⟨⟨[], 0, none, []⟩, 0⟩ l3
      have e5 : absArgs [(false, [.sl rows len])] ⟨⟨[], 0, none, []⟩, 0⟩ = ([.slice 0 0 len rows.length], ⟨⟨[(0, .cells true (rowsOf callC L))], 1, none, []⟩, 1⟩) := by
        simp only [absArgs, absCs, absC, e1]
        rfl
      rw [e5]
      exact j_any (by omega) e3
    | _ => simp only [Ty] at k1
end Go.Proofs.Ythooafgfpnedhaa.specsJudge
