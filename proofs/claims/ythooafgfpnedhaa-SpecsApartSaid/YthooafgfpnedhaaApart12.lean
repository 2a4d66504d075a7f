/- What stands behind the loop answers true. Conditions: those that each theorem names, and no others. -/
import Derived.Test.YthooafgfpnedhaaApart11
namespace Go.Proofs.Ythooafgfpnedhaa.specsApart
open Go Go.Mini
section
variable {x : AV} {n : Nat} {row : List AV} {f : Nat → Int × Int × Int} {S T : Option (List (Int × Int))} {Q : Option (List Int × Nat)} {I O : Option (List Int)} {st : St}
theorem caRW (inv : Inv S T Q I O st) : ∀ b ∈ ft, ∃ o, (CA st row).get b = some o ∧ o.rw = true ∧ o.names (fun c => Nat.blt c 14) = true := by
  have cl : ∀ {o : AObj} {b : Nat}, Cl o → (CA st row).get b = some o → ∃ o, (CA st row).get b = some o ∧ o.rw = true ∧ o.names (fun c => Nat.blt c 14) = true := fun hc h1 => ⟨_, h1, hc.1, onames_sub (fun _ h => by cases h) hc.2⟩
  intro b hb
  simp only [ft, List.mem_cons, List.not_mem_nil, or_false] at hb
  rcases hb with rfl | rfl | rfl | rfl | rfl | rfl | rfl | rfl | rfl | rfl | rfl | rfl | rfl
  · exact ⟨_, rfl, rfl, rfl⟩
  · exact ⟨_, rfl, rfl, (show (true && (st.mT2.names (fun c => Nat.blt c 14) && (true && true))) = true by rw [inv.t2.nm (show 5 < 14 by decide)]; rfl)⟩
  · exact ⟨_, rfl, rfl, (show (true && (true && (st.q1.names (fun c => Nat.blt c 14) && true))) = true by rw [inv.q1.nm (show 6 < 14 by decide)]; rfl)⟩
  · exact ⟨_, rfl, rfl, and2 (inv.s0.nm (show 4 < 14 by decide)) rfl⟩
  · exact ⟨_, rfl, rfl, and2 (inv.s.nm (show 1 < 14 by decide)) (and2 (inv.t.nm (show 2 < 14 by decide)) (and2 (inv.qq.nm (show 3 < 14 by decide)) rfl))⟩
  · exact cl inv.o.cl rfl
  · exact cl inv.i.cl rfl
  · exact cl inv.q1.cl rfl
  · exact cl inv.t2.cl rfl
  · exact cl inv.s0.cl rfl
  · exact cl inv.qq.cl rfl
  · exact cl inv.t.cl rfl
  · exact cl inv.s.cl rfl
theorem ends (inv : Inv S T Q I O st) {s2 : AS} (h : ∀ b ∈ ft, b ≠ 8 → s2.get b = (CA st row).get b) (h8 : s2.get 8 = some .dead ∨ s2.get 8 = (CA st row).get 8) :
    ∀ b ∈ ft, ((objAt s2 b).rw = true ∨ objAt s2 b = .dead) ∧ (objAt s2 b).names (fun b => Nat.blt b (CA st row).nx) = true := by
  intro b hb
  obtain ⟨o, h1, h2, h3⟩ := caRW (row := row) inv b hb
  have main : s2.get b = (CA st row).get b → ((objAt s2 b).rw = true ∨ objAt s2 b = .dead) ∧ (objAt s2 b).names (fun b => Nat.blt b (CA st row).nx) = true := by
    intro he
    rw [show objAt s2 b = o from by simp [objAt, he, h1]]
    exact ⟨.inl h2, h3⟩
  by_cases h8b : b = 8
  · subst h8b
    rcases h8 with h8 | h8
    · rw [show objAt s2 8 = .dead from by simp [objAt, h8]]
      exact ⟨.inr rfl, rfl⟩
    · exact main h8
  · exact main (h b hb h8b)
theorem sufAll (W : Rw x n row f) (inv : Inv S T Q I O st) (pl : PL S T Q I O n) : ∃ s2, Sound Try.prog (.code sufC (TA x st.iv st.ov n) (CA st row)) ⟨.ret, TZ, s2⟩ ∧ ∀ b ∈ ft, ((objAt s2 b).rw = true ∨ objAt s2 b = .dead) ∧ (objAt s2 b).names (fun b => Nat.blt b (CA st row).nx) = true := by
  have hsm := W.small
  have hsh := pl.short
  have hfi := pl.fifo
  have inv2 := inv
  obtain ⟨mS, mT, q, mS0, q1, mT2, iv, ov, oO, oI, oQ1, oT2, oS0, oQ, oT, oS⟩ := st
  have is : MO S mS 1 oS := inv.s
  have it : MO T mT 2 oT := inv.t
  have iq : QO Q q 3 oQ := inv.qq
  have ii : QO (Option.map (fun L => (L, 0)) I) iv 7 oI := inv.i
  have io : QO (Option.map (fun L => (L, 0)) O) ov 8 oO := inv.o
  clear inv
  have hxo : ov = .nilSlice ∨ ∃ b m, ov = .osl b 0 m 1 := by
    cases O with
    | none => exact .inl io.1
    | some L => exact .inr ⟨8, L.length, io.1⟩
  have lenI : ∀ s : AS, lenA Try.prog s 30 iv = some (.int .i64 (Int.ofNat (I.getD []).length)) := by
    cases I with
    | none => intro s; rw [ii.1]; exact len_nil s
    | some L => intro s; rw [ii.1]; exact len_osl s 7 0 L.length
  have lenO : ∀ s : AS, lenA Try.prog s 30 ov = some (.int .i64 (Int.ofNat (O.getD []).length)) := by
    cases O with
    | none => intro s; rw [io.1]; exact len_nil s
    | some L => intro s; rw [io.1]; exact len_osl s 8 0 L.length
  cases Q with
  | none =>
    obtain ⟨rfl, hcQ⟩ := iq
    have hI : I = none := pl.non.1 rfl
    subst hI
    have hO : O.getD [] = [] := by simpa [qv] using hfi.symm
    rw [hO] at lenO
    refine ⟨_, Sound.sees (runX_sound mixed none_sound (suf1 x n 0 oS oT oQ _ _ oQ1 oI oO .dead .dead mS mT .nilSlice _ _ _ iv ov 0 0 row) ⟨Q12n rfl is.mp it.mp, app_0 hxo rfl rfl, lenI _, lenO _, same_q _, ?_, livC _, trivial⟩) ?_, ends inv2 (fun b hb _ => ?_) (.inr rfl)⟩
    · refine Sound.enter (loop2_8_14 [] lenI lenO (.inl rfl) (by decide) ii.na io.na _ 0 rfl (Nat.zero_le _) none none []) ?_
      unfold TB
      repeat (first | exact rfl | refine ⟨_, _, rfl, ?_, ?_⟩ | exact .inr ⟨rfl, rfl⟩ | exact .inl ⟨rfl, rfl⟩ | exact .inl ⟨W.na.1.symm, W.na.2⟩ | exact .inl ⟨ii.na.1.symm, ii.na.2⟩ | exact .inl ⟨io.na.1.symm, io.na.2⟩ | exact see_same _)
    · unfold TZ
      repeat (first | exact rfl | refine ⟨_, _, rfl, ?_, ?_⟩ | exact .inr ⟨rfl, rfl⟩ | exact .inl ⟨rfl, rfl⟩ | exact .inl ⟨W.na.1.symm, W.na.2⟩ | exact .inl ⟨ii.na.1.symm, ii.na.2⟩ | exact .inl ⟨io.na.1.symm, io.na.2⟩)
    · rfl
  | some z =>
    obtain ⟨R, kk⟩ := z
    obtain ⟨rfl, rfl, hkk⟩ := iq
    have hY : (R.drop kk).length = R.length - kk := by simp
    have hroom := pl.room _ rfl
    simp only at hroom
    cases I with
    | none => exact absurd (pl.non.2 rfl) (by simp)
    | some LI =>
      obtain ⟨rfl, rfl, _⟩ := ii
      simp only [Option.getD_some, qv] at hfi hsh hroom lenI
      have hlen : LI.length = (O.getD []).length + (R.length - kk) := by rw [hfi, List.length_append, hY]
      by_cases hn : R.length - kk = 0
      · have hd : R.drop kk = [] := List.eq_nil_of_length_eq_zero (by omega)
        rw [hd, List.append_nil] at hfi
        rw [← hfi] at lenO
        refine ⟨_, Sound.sees (runX_sound mixed none_sound (suf2 x n LI.length oS oT _ _ _ oQ1 _ oO (.cells false (uc (R.drop kk))) .dead mS mT (.osl 3 kk (R.length - kk) 1) _ _ _ (.osl 7 0 (LI.length - 0) 1) ov (R.length - kk) 0 row) ⟨Q12s (b := 9) (bm := 3) rfl rfl is.mp it.mp (by decide) (by omega) (by omega), app_0 hxo (by rw [hn]; rfl) (by rw [hn, hd]; rfl), lenI _, lenO _, same_q _, ?_, livC _, trivial⟩) ?_, ends inv2 (fun b hb _ => ?_) (.inr rfl)⟩
        · refine Sound.enter (loop2_8_15 LI lenI lenO ?_ (by omega) ⟨rfl, rfl⟩ io.na _ 0 rfl (Nat.zero_le _) none none []) ?_
          · cases O with
            | none => exact .inl (by simpa using hfi)
            | some LO =>
              obtain ⟨rfl, rfl, _⟩ := io
              have : LI = LO := by simpa using hfi
              subst this
              exact .inr ⟨rfl, rfl, rfl, rfl⟩
          · unfold TB
            repeat (first | exact rfl | refine ⟨_, _, rfl, ?_, ?_⟩ | exact .inr ⟨rfl, rfl⟩ | exact .inl ⟨rfl, rfl⟩ | exact .inl ⟨W.na.1.symm, W.na.2⟩ | exact .inl ⟨io.na.1.symm, io.na.2⟩ | exact see_same _)
        · unfold TZ
          repeat (first | exact rfl | refine ⟨_, _, rfl, ?_, ?_⟩ | exact .inr ⟨rfl, rfl⟩ | exact .inl ⟨rfl, rfl⟩ | exact .inl ⟨W.na.1.symm, W.na.2⟩ | exact .inl ⟨io.na.1.symm, io.na.2⟩)
        · simp only [ft, List.mem_cons, List.not_mem_nil, or_false] at hb
          rcases hb with rfl | rfl | rfl | rfl | rfl | rfl | rfl | rfl | rfl | rfl | rfl | rfl | rfl <;> rfl
      · have hn' : (R.drop kk).length ≠ 0 := by omega
        cases O with
        | none =>
          obtain ⟨rfl, hcO⟩ := io
          simp only [Option.getD_none, List.nil_append, List.length_nil, Nat.zero_add] at hfi hlen
          have ha := app_1 (s := ⟨⟨(14, .cells false (uc (R.drop kk))) :: BA mS mT (.osl 3 kk (R.length - kk) 1) mS0 q1 mT2 oO (.cells false (uc LI)) oQ1 oT2 oS0 (.cells false (uc R)) oT oS row, 15, none, []⟩, 15⟩) (b2 := 14) (Y := R.drop kk) rfl hn' (by omega)
          rw [hY] at ha
          refine ⟨_, Sound.sees (runX_sound mixed none_sound (suf3 x n LI.length oS oT _ _ _ oQ1 _ oO (.cells false (uc (R.drop kk))) (.cells false (uc (R.drop kk))) mS mT (.osl 3 kk (R.length - kk) 1) _ _ _ (.osl 7 0 (LI.length - 0) 1) .nilSlice (R.length - kk) (R.length - kk) row) ⟨Q12s (b := 9) (bm := 3) rfl rfl is.mp it.mp (by decide) (by omega) (by omega), ha, lenI _, by rw [hlen]; exact len_osl _ _ _ _, same_q _, ?_, livC _, trivial⟩) ?_, ends inv2 (fun b hb _ => ?_) (.inr rfl)⟩
          · refine Sound.enter (loop2_15_16 LI lenI (by rw [hlen]; exact fun s => len_osl s _ _ _) (.inr ⟨rfl, by rw [hlen], rfl, by rw [hfi]; rfl⟩) (by omega) ⟨rfl, rfl⟩ ⟨rfl, rfl⟩ _ 0 rfl (Nat.zero_le _) none none []) ?_
            unfold TB
            repeat (first | exact rfl | refine ⟨_, _, rfl, ?_, ?_⟩ | exact .inr ⟨rfl, rfl⟩ | exact .inl ⟨rfl, rfl⟩ | exact .inl ⟨W.na.1.symm, W.na.2⟩ | exact see_same _)
          · unfold TZ
            repeat (first | exact rfl | refine ⟨_, _, rfl, ?_, ?_⟩ | exact .inr ⟨rfl, rfl⟩ | exact .inl ⟨rfl, rfl⟩ | exact .inl ⟨W.na.1.symm, W.na.2⟩)
          · simp only [ft, List.mem_cons, List.not_mem_nil, or_false] at hb
            rcases hb with rfl | rfl | rfl | rfl | rfl | rfl | rfl | rfl | rfl | rfl | rfl | rfl | rfl <;> rfl
        | some LO =>
          obtain ⟨rfl, rfl, _⟩ := io
          simp only [Option.getD_some] at hfi hlen
          have ha := app_2 (s := ⟨⟨(14, .cells false (uc (R.drop kk))) :: BA mS mT (.osl 3 kk (R.length - kk) 1) mS0 q1 mT2 (.cells false (uc LO)) (.cells false (uc LI)) oQ1 oT2 oS0 (.cells false (uc R)) oT oS row, 15, none, []⟩, 15⟩) (b := 8) (X := LO) (b2 := 14) (Y := R.drop kk) rfl rfl hn' (by omega)
          rw [hY] at ha
          refine ⟨_, Sound.sees (runX_sound mixed none_sound (suf4 x n LI.length oS oT _ _ _ oQ1 _ _ (.cells false (uc (R.drop kk))) (.cells false (uc (LO ++ R.drop kk))) mS mT (.osl 3 kk (R.length - kk) 1) _ _ _ (.osl 7 0 (LI.length - 0) 1) (.osl 8 0 (LO.length - 0) 1) (R.length - kk) (LO.length + (R.length - kk)) row) ⟨Q12s (b := 9) (bm := 3) rfl rfl is.mp it.mp (by decide) (by omega) (by omega), ha, lenI _, by rw [hlen]; exact len_osl _ _ _ _, same_q _, ?_, livC _, trivial⟩) ?_, ends inv2 (fun b hb h8 => ?_) (.inl rfl)⟩
          · refine Sound.enter (loop2_15_16 LI lenI (by rw [hlen]; exact fun s => len_osl s _ _ _) (.inr ⟨rfl, by rw [hlen], rfl, by rw [hfi]; rfl⟩) (by omega) ⟨rfl, rfl⟩ ⟨rfl, rfl⟩ _ 0 rfl (Nat.zero_le _) none none [8]) ?_
            unfold TB
            repeat (first | exact rfl | refine ⟨_, _, rfl, ?_, ?_⟩ | exact .inr ⟨rfl, rfl⟩ | exact .inl ⟨rfl, rfl⟩ | exact .inl ⟨W.na.1.symm, W.na.2⟩ | exact see_same _)
          · unfold TZ
            repeat (first | exact rfl | refine ⟨_, _, rfl, ?_, ?_⟩ | exact .inr ⟨rfl, rfl⟩ | exact .inl ⟨rfl, rfl⟩ | exact .inl ⟨W.na.1.symm, W.na.2⟩)
          · simp only [ft, List.mem_cons, List.not_mem_nil, or_false] at hb
            rcases hb with rfl | rfl | rfl | rfl | rfl | rfl | rfl | rfl | rfl | rfl | rfl | rfl | rfl <;> first | rfl | exact absurd rfl h8
end
end Go.Proofs.Ythooafgfpnedhaa.specsApart
