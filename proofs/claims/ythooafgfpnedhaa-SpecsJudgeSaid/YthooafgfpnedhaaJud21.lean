/- One step of the loop of specs.Judge. Conditions: those that each theorem names, and no others. -/
import Derived.Test.YthooafgfpnedhaaJud20
namespace Go.Proofs.Ythooafgfpnedhaa.specsJudge
open Go Go.Mini
section
variable {lA : AV} {n : Nat} {row : List AV} {f : Nat → Call9} (W : RwC lA n row f) {opN : Nat → Nat} (hop : ∀ d, d < n → (f d).2.1 = Int.ofNat (opN d))
include W hop
theorem j_step {D : List Nat} {wA : AV} {oW : AObj} (hw : WA D wA oW) (hD : ∀ d ∈ D, d < n) (hl : D.length ≤ 1000) {S T : Option (List (Int × Int))} {Q : Option (List Int × Nat)} {st : S3} (inv : Inv3 S T Q st) {x21 : AV} {i : Nat} (hi : i < D.length) (hq : qlen Q ≤ i) :
    ∃ S' T' Q' st', Inv3 S' T' Q' st' ∧ rep S' T' Q' = (stepP (rep S T Q) (opN D[i]) (kF (f D[i])) (vF (f D[i]))).2 ∧ qlen Q' ≤ i + 1 ∧
      ((badF (f D[i]) (stepP (rep S T Q) (opN D[i]) (kF (f D[i])) (vF (f D[i]))).1 = false ∧ Go.Mini.Good Try.prog [(0, row)] (canS (bsJ st oW) row 6 6) [5, 4, 3, 2, 1] (TJ lA wA x21 (.int .i64 (Int.ofNat 0)) (.bool false) D.length i) (loopAt Try.prog 21 0) .normal (TJ lA wA (.agg (callC (f D[i]))) (.int .i64 (Int.ofNat 0)) (.bool false) D.length (i + 1)) (canS (bsJ st' oW) row 6 6) [5, 4, 3, 2, 1]) ∨
       (badF (f D[i]) (stepP (rep S T Q) (opN D[i]) (kF (f D[i])) (vF (f D[i]))).1 = true ∧ Go.Mini.Good Try.prog [(0, row)] (canS (bsJ st oW) row 6 6) [5, 4, 3, 2, 1] (TJ lA wA x21 (.int .i64 (Int.ofNat 0)) (.bool false) D.length i) (loopAt Try.prog 21 0) .ret (TJ lA wA (.agg (callC (f D[i]))) (.int .i64 (Int.ofNat D[i])) (.bool false) D.length i) (canS (bsJ st' oW) row 6 6) [5, 4, 3, 2, 1])) := by
  generalize hd : D[i] = d
  have hdm : d < n := hD d (by rw [← hd]; exact List.getElem_mem _)
  have ho := hop d hdm
  obtain ⟨a, hidx, hld⟩ := W.at_ d hdm
  obtain ⟨wi, wl⟩ := hw.idx hi
  rw [hd] at wl
  have hz : callC (f d) = [.int .i64 (f d).1, .int .u8 (Int.ofNat (opN d)), .int .u64 (kF (f d)), .int .u64 (vF (f d)), .int .u8 (ansF (f d)), .int .u64 (gotF (f d)), .int .i64 (fromF (f d)), .int .i64 (atF (f d)), .int .i64 (toF (f d))] := by
    rw [← ho]
    rfl
  have hx : X12 (.agg (callC (f d))) := .inr ⟨_, rfl⟩
  have hcp : Free (.cells false [.int .i64 (f d).1, .int .u8 (Int.ofNat (opN d)), .int .u64 (kF (f d)), .int .u64 (vF (f d)), .int .u8 (ansF (f d)), .int .u64 (gotF (f d)), .int .i64 (fromF (f d)), .int .i64 (atF (f d)), .int .i64 (toF (f d))]) := ⟨rfl, rfl⟩
  obtain ⟨S', T', Q', st', r, x1, x2, x3, xN, q1, q2, q3, q4, q5⟩ := doAll (s := ⟨⟨[(6, .cells false [.int .i64 (f d).1, .int .u8 (Int.ofNat (opN d)), .int .u64 (kF (f d)), .int .u64 (vF (f d)), .int .u8 (ansF (f d)), .int .u64 (gotF (f d)), .int .i64 (fromF (f d)), .int .i64 (atF (f d)), .int .i64 (toF (f d))]), (5, oW), (4, .cells false [st.mS, st.mT, st.q]), (3, st.oQ), (2, st.oT), (1, st.oS), (0, .cells true row)], 7, none, [6]⟩, 7⟩) (k := kF (f d)) (v := vF (f d)) inv rfl rfl rfl rfl (by omega)
  refine ⟨S', T', Q', st', q1, q2, by omega, ?_⟩
  generalize hrr : stepP (rep S T Q) (opN d) (kF (f d)) (vF (f d)) = rr at q5
  have lt := ltq i D.length true (by simpa using hi)
  have ld := (hld (canS (bsJ st oW) row 6 6) true rfl).1
  rw [hz] at ld
  have badE : ∀ b1 b2 b3 b4 : Bool, decide (fromF (f d) > atF (f d)) = b1 → ((toF (f d) != Int.negSucc 0) && decide (atF (f d) > toF (f d))) = b2 → (Int.ofNat rr.1.1 != ansF (f d)) = b3 → (rr.1.2 != gotF (f d)) = b4 → badF (f d) rr.1 = (b1 || b2 || b3 || b4) := by
    intro b1 b2 b3 b4 h1 h2 h3 h4
    unfold badF
    rw [h1, h2, h3, h4]
  have tidy : ∀ {t2 : AV} {j : Nat} {ts1 : List AV}, seesT (fun b => b) (fun _ => true) (TJ lA wA (.agg [.int .i64 (f d).1, .int .u8 (Int.ofNat (opN d)), .int .u64 (kF (f d)), .int .u64 (vF (f d)), .int .u8 (ansF (f d)), .int .u64 (gotF (f d)), .int .i64 (fromF (f d)), .int .i64 (atF (f d)), .int .i64 (toF (f d))]) t2 (.bool false) D.length j) ts1 → seesT (fun b => b) (fun _ => true) (TJ lA wA (.agg (callC (f d))) t2 (.bool false) D.length j) ts1 := fun h => by rw [hz]; exact h
  cases hb1 : decide (fromF (f d) > atF (f d)) with
  | true =>
    refine .inr ⟨by rw [badE true _ _ _ hb1 rfl rfl rfl]; rfl, canJ W hw q1 q4 hcp hx rfl rfl (runX_sound mixed none_sound (j_f1 lA wA x21 st.mS st.mT st.q _ _ _ D.length i a d (f d).1 (Int.ofNat (opN d)) (kF (f d)) (vF (f d)) (ansF (f d)) (gotF (f d)) (fromF (f d)) (atF (f d)) (toF (f d)) _ _ st.oS st.oT st.oQ oW x1 x2 x3 xN row) ⟨lt, wi, wl _ rfl, hidx, ld, q5, bq hb1, trivial⟩) (tidy ?_)⟩
    unfold TJ
    repeat (first | exact rfl | refine ⟨_, _, rfl, ?_, ?_⟩ | exact .inr ⟨rfl, rfl⟩ | exact .inl ⟨rfl, rfl⟩ | exact .inl ⟨W.na.1.symm, W.na.2⟩ | exact see_same _)
  | false =>
    cases hb2 : (toF (f d) != Int.negSucc 0) with
    | true =>
      cases hb3 : decide (atF (f d) > toF (f d)) with
      | true =>
        refine .inr ⟨by rw [badE false true _ _ hb1 (by rw [hb2, hb3]; rfl) rfl rfl]; rfl, canJ W hw q1 q4 hcp hx rfl rfl (runX_sound mixed none_sound (j_f2 lA wA x21 st.mS st.mT st.q _ _ _ D.length i a d (f d).1 (Int.ofNat (opN d)) (kF (f d)) (vF (f d)) (ansF (f d)) (gotF (f d)) (fromF (f d)) (atF (f d)) (toF (f d)) _ _ st.oS st.oT st.oQ oW x1 x2 x3 xN row) ⟨lt, wi, wl _ rfl, hidx, ld, q5, bq hb1, bq hb2, bq hb3, trivial⟩) (tidy ?_)⟩
        unfold TJ
        repeat (first | exact rfl | refine ⟨_, _, rfl, ?_, ?_⟩ | exact .inr ⟨rfl, rfl⟩ | exact .inl ⟨rfl, rfl⟩ | exact .inl ⟨W.na.1.symm, W.na.2⟩ | exact see_same _)
      | false =>
        cases hb4 : (Int.ofNat rr.1.1 != ansF (f d)) with
        | true =>
          refine .inr ⟨by rw [badE false false true _ hb1 (by rw [hb2, hb3]; rfl) hb4 rfl]; rfl, canJ W hw q1 q4 hcp hx rfl rfl (runX_sound mixed none_sound (j_fa1 lA wA x21 st.mS st.mT st.q _ _ _ D.length i a d (f d).1 (Int.ofNat (opN d)) (kF (f d)) (vF (f d)) (ansF (f d)) (gotF (f d)) (fromF (f d)) (atF (f d)) (toF (f d)) _ _ st.oS st.oT st.oQ oW x1 x2 x3 xN row) ⟨lt, wi, wl _ rfl, hidx, ld, q5, bq hb1, bq hb2, bq hb3, bq hb4, trivial⟩) (tidy ?_)⟩
          unfold TJ
          repeat (first | exact rfl | refine ⟨_, _, rfl, ?_, ?_⟩ | exact .inr ⟨rfl, rfl⟩ | exact .inl ⟨rfl, rfl⟩ | exact .inl ⟨W.na.1.symm, W.na.2⟩ | exact see_same _)
        | false =>
          cases hb5 : (rr.1.2 != gotF (f d)) with
          | true =>
            refine .inr ⟨by rw [badE false false false true hb1 (by rw [hb2, hb3]; rfl) hb4 hb5]; rfl, canJ W hw q1 q4 hcp hx rfl rfl (runX_sound mixed none_sound (j_fg1 lA wA x21 st.mS st.mT st.q _ _ _ D.length i a d (f d).1 (Int.ofNat (opN d)) (kF (f d)) (vF (f d)) (ansF (f d)) (gotF (f d)) (fromF (f d)) (atF (f d)) (toF (f d)) _ _ st.oS st.oT st.oQ oW x1 x2 x3 xN row) ⟨lt, wi, wl _ rfl, hidx, ld, q5, bq hb1, bq hb2, bq hb3, bq hb4, bq hb5, trivial⟩) (tidy ?_)⟩
            unfold TJ
            repeat (first | exact rfl | refine ⟨_, _, rfl, ?_, ?_⟩ | exact .inr ⟨rfl, rfl⟩ | exact .inl ⟨rfl, rfl⟩ | exact .inl ⟨W.na.1.symm, W.na.2⟩ | exact see_same _)
          | false =>
            refine .inl ⟨by rw [badE false false false false hb1 (by rw [hb2, hb3]; rfl) hb4 hb5]; rfl, canJ W hw q1 q4 hcp hx rfl rfl (runX_sound mixed none_sound (j_ok1 lA wA x21 st.mS st.mT st.q _ _ _ D.length i a d (f d).1 (Int.ofNat (opN d)) (kF (f d)) (vF (f d)) (ansF (f d)) (gotF (f d)) (fromF (f d)) (atF (f d)) (toF (f d)) _ _ st.oS st.oT st.oQ oW x1 x2 x3 xN row) ⟨lt, wi, wl _ rfl, hidx, ld, q5, bq hb1, bq hb2, bq hb3, bq hb4, bq hb5, wq _ rfl (by omega), trivial⟩) (tidy ?_)⟩
            unfold TJ
            repeat (first | exact rfl | refine ⟨_, _, rfl, ?_, ?_⟩ | exact .inr ⟨rfl, rfl⟩ | exact .inl ⟨rfl, rfl⟩ | exact .inl ⟨W.na.1.symm, W.na.2⟩ | exact see_same _)
    | false =>
      cases hb4 : (Int.ofNat rr.1.1 != ansF (f d)) with
      | true =>
        refine .inr ⟨by rw [badE false false true _ hb1 (by rw [hb2]; rfl) hb4 rfl]; rfl, canJ W hw q1 q4 hcp hx rfl rfl (runX_sound mixed none_sound (j_fa0 lA wA x21 st.mS st.mT st.q _ _ _ D.length i a d (f d).1 (Int.ofNat (opN d)) (kF (f d)) (vF (f d)) (ansF (f d)) (gotF (f d)) (fromF (f d)) (atF (f d)) (toF (f d)) _ _ st.oS st.oT st.oQ oW x1 x2 x3 xN row) ⟨lt, wi, wl _ rfl, hidx, ld, q5, bq hb1, bq hb2, bq hb4, trivial⟩) (tidy ?_)⟩
        unfold TJ
        repeat (first | exact rfl | refine ⟨_, _, rfl, ?_, ?_⟩ | exact .inr ⟨rfl, rfl⟩ | exact .inl ⟨rfl, rfl⟩ | exact .inl ⟨W.na.1.symm, W.na.2⟩ | exact see_same _)
      | false =>
        cases hb5 : (rr.1.2 != gotF (f d)) with
        | true =>
          refine .inr ⟨by rw [badE false false false true hb1 (by rw [hb2]; rfl) hb4 hb5]; rfl, canJ W hw q1 q4 hcp hx rfl rfl (runX_sound mixed none_sound (j_fg0 lA wA x21 st.mS st.mT st.q _ _ _ D.length i a d (f d).1 (Int.ofNat (opN d)) (kF (f d)) (vF (f d)) (ansF (f d)) (gotF (f d)) (fromF (f d)) (atF (f d)) (toF (f d)) _ _ st.oS st.oT st.oQ oW x1 x2 x3 xN row) ⟨lt, wi, wl _ rfl, hidx, ld, q5, bq hb1, bq hb2, bq hb4, bq hb5, trivial⟩) (tidy ?_)⟩
          unfold TJ
          repeat (first | exact rfl | refine ⟨_, _, rfl, ?_, ?_⟩ | exact .inr ⟨rfl, rfl⟩ | exact .inl ⟨rfl, rfl⟩ | exact .inl ⟨W.na.1.symm, W.na.2⟩ | exact see_same _)
        | false =>
          refine .inl ⟨by rw [badE false false false false hb1 (by rw [hb2]; rfl) hb4 hb5]; rfl, canJ W hw q1 q4 hcp hx rfl rfl (runX_sound mixed none_sound (j_ok0 lA wA x21 st.mS st.mT st.q _ _ _ D.length i a d (f d).1 (Int.ofNat (opN d)) (kF (f d)) (vF (f d)) (ansF (f d)) (gotF (f d)) (fromF (f d)) (atF (f d)) (toF (f d)) _ _ st.oS st.oT st.oQ oW x1 x2 x3 xN row) ⟨lt, wi, wl _ rfl, hidx, ld, q5, bq hb1, bq hb2, bq hb4, bq hb5, wq _ rfl (by omega), trivial⟩) (tidy ?_)⟩
          unfold TJ
          repeat (first | exact rfl | refine ⟨_, _, rfl, ?_, ?_⟩ | exact .inr ⟨rfl, rfl⟩ | exact .inl ⟨rfl, rfl⟩ | exact .inl ⟨W.na.1.symm, W.na.2⟩ | exact see_same _)
end
end Go.Proofs.Ythooafgfpnedhaa.specsJudge
