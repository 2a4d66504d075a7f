/- slices.SortStableFunc sorts, and keeps the order of those alike. Conditions: those that each theorem names, and no others. -/
import Derived.Test.YthooafgfpnedhaaJud12
namespace Go.Proofs.Ythooafgfpnedhaa.specsJudge
open Go Go.Mini
theorem flat_len {w : Nat} : ∀ {Cs : List (List Nat)}, (∀ C ∈ Cs, C.length = w) → Cs.flatten.length = w * Cs.length
  | [], _ => by simp
  | C :: Cs, h => by
    have ih := flat_len (w := w) (Cs := Cs) (fun D hD => h D (by simp [hD]))
    have h1 := h C (by simp)
    simp only [List.flatten_cons, List.length_append, List.length_cons, ih, h1]
    rw [Nat.mul_add, Nat.mul_one, Nat.add_comm]
theorem pw_merge {L1 L2 : List (List Nat)} {C1 C2 M : List Nat} (h : (L1 ++ C1 :: C2 :: L2).Pairwise Ahead) (p : M.Perm (C1 ++ C2)) : (L1 ++ M :: L2).Pairwise Ahead := by
  rw [List.pairwise_append] at h ⊢
  obtain ⟨h1, h2, h3⟩ := h
  rw [List.pairwise_cons, List.pairwise_cons] at h2
  obtain ⟨q1, q2, q3⟩ := h2
  have hm : ∀ x ∈ M, x ∈ C1 ∨ x ∈ C2 := fun x hx => List.mem_append.1 (p.mem_iff.1 hx)
  refine ⟨h1, List.pairwise_cons.2 ⟨fun C hC x hx y hy => ?_, q3⟩, fun L hL C hC => ?_⟩
  · rcases hm x hx with h | h
    · exact q1 C (by simp [hC]) x h y hy
    · exact q2 C hC x h y hy
  · rcases List.mem_cons.1 hC with rfl | hC
    · intro x hx y hy
      rcases hm y hy with h | h
      · exact h3 L hL C1 (by simp) x hx y h
      · exact h3 L hL C2 (by simp) x hx y h
    · exact h3 L hL C (by simp [hC])
section
variable {k : Nat → Int} {N : Nat} {oB oL : AObj} (hB : oB.names (fun c => Nat.blt c 3) = true) (hL : oL.names (fun c => Nat.blt c 3) = true) {n : Nat} (hn : n < 1000000) (hcmp : CmpS k N oB oL)
include hB hL hn hcmp
/-- Blocks of twenty, sorted. -/
theorem st_first : ∀ (m : Nat) (Cs : List (List Nat)) (Y : List Nat), Y.length ≤ m → (∀ C ∈ Cs, C.length = 20 ∧ Srt k C) → Y.Pairwise (· < ·) → (Cs ++ [Y]).Pairwise Ahead → (∀ s ∈ Cs.flatten ++ Y, s < N) → n = (Cs.flatten ++ Y).length →
    ∃ (Cs' : List (List Nat)) (Z : List Nat), (∀ C ∈ Cs', C.length = 20 ∧ Srt k C) ∧ Z.length < 20 ∧ Z.Pairwise (· < ·) ∧ (Cs' ++ [Z]).Pairwise Ahead ∧ (Cs'.flatten ++ Z).Perm (Cs.flatten ++ Y) ∧
      SoundL Try.prog [2] (.loop (loopAt Try.prog 56 0)) (T56 n CM (.int .i64 20) (.int .i64 (Int.ofNat Cs.flatten.length)) (.int .i64 (Int.ofNat (Cs.flatten.length + 20)))) (bsS (nc (Cs.flatten ++ Y)) oB oL) 3 3 (.exit 0) (T56 n CM (.int .i64 20) (.int .i64 (Int.ofNat Cs'.flatten.length)) (.int .i64 (Int.ofNat (Cs'.flatten.length + 20)))) (bsS (nc (Cs'.flatten ++ Z)) oB oL) := by
  intro m
  induction m with
  | zero =>
    intro Cs Y hm h1 h2 h3 h4 hnn
    have : Y = [] := List.eq_nil_of_length_eq_zero (by omega)
    subst this
    simp only [List.append_nil] at hnn
    refine ⟨Cs, [], h1, by simp, h2, h3, List.Perm.refl _, SoundL.stop (SL hB hL (runX_sound mixed none_sound (st0_end n Cs.flatten.length (Cs.flatten.length + 20) 0 0 0 0 0 0 0 0 0 0 0 0 0 0 0 0 0 oB oL _ [] [] [] [] CM) ⟨leq _ _ _ (decide_eq_false (by omega)), trivial⟩) ?_ (nc_names _ _)) (by simp)⟩
    unfold T56
    repeat (first | exact rfl | refine ⟨_, _, rfl, ?_, ?_⟩ | exact .inr ⟨rfl, rfl⟩ | exact .inl ⟨rfl, rfl⟩)
  | succ m ih =>
    intro Cs Y hm h1 h2 h3 h4 hnn
    by_cases hY : Y.length < 20
    · refine ⟨Cs, Y, h1, hY, h2, h3, List.Perm.refl _, SoundL.stop (SL hB hL (runX_sound mixed none_sound (st0_end n Cs.flatten.length (Cs.flatten.length + 20) 0 0 0 0 0 0 0 0 0 0 0 0 0 0 0 0 0 oB oL _ [] [] [] [] CM) ⟨leq _ _ _ (decide_eq_false (by rw [List.length_append] at hnn; omega)), trivial⟩) ?_ (nc_names _ _)) (by simp)⟩
      unfold T56
      repeat (first | exact rfl | refine ⟨_, _, rfl, ?_, ?_⟩ | exact .inr ⟨rfl, rfl⟩ | exact .inl ⟨rfl, rfl⟩)
    · have hcut : Y.take 20 ++ Y.drop 20 = Y := List.take_append_drop _ _
      generalize e1 : Y.take 20 = Y1 at hcut
      generalize e2 : Y.drop 20 = Y2 at hcut
      have l1 : Y1.length = 20 := by rw [← e1]; simp; omega
      subst hcut
      have p2 := List.pairwise_append.1 h2
      simp only [List.length_append] at hnn hm
      obtain ⟨M, q1, q2, q3⟩ := is_all hB hL hn hcmp (a := Cs.flatten.length) (b := Cs.flatten.length + 20) (P := Cs.flatten) (B := Y1) (T := Y2) rfl (by omega) (by omega) p2.1 (fun s hs => h4 s (by simp [hs]))
      have h3' : (Cs ++ [M] ++ [Y2]).Pairwise Ahead := by
        have hp := List.pairwise_append.1 h3
        rw [List.append_assoc, List.pairwise_append]
        refine ⟨hp.1, List.pairwise_cons.2 ⟨fun D hD x hx y hy => ?_, by simp⟩, fun C hC D hD x hx y hy => ?_⟩
        · have hD : D = Y2 := by simpa using hD
          subst hD
          exact p2.2.2 x (q1.mem_iff.1 hx) y hy
        · have hD : D = M ∨ D = Y2 := by simpa using hD
          rcases hD with rfl | rfl
          · exact hp.2.2 C hC (Y1 ++ Y2) (by simp) x hx y (by simp [q1.mem_iff.1 hy])
          · exact hp.2.2 C hC (Y1 ++ D) (by simp) x hx y (by simp [hy])
      have hfl : (Cs ++ [M]).flatten = Cs.flatten ++ M := by simp
      have lM : M.length = 20 := by rw [q1.length_eq, l1]
      obtain ⟨Cs', Z, r1, r2, r3, r4, r5, r6⟩ := ih (Cs ++ [M]) Y2 (by omega) (fun C hC => by
        rcases List.mem_append.1 hC with h | h
        · exact h1 C h
        · simp only [List.mem_singleton] at h
          subst h
          exact ⟨lM, q2⟩) p2.2.1 h3' (fun s hs => by
        rw [hfl] at hs
        simp only [List.mem_append] at hs
        rcases hs with (h | h) | h
        · exact h4 s (by simp only [List.mem_append]; exact .inl h)
        · exact h4 s (by simp only [List.mem_append]; exact .inr (.inl (q1.mem_iff.1 h)))
        · exact h4 s (by simp only [List.mem_append]; exact .inr (.inr h))) (by rw [hfl]; simp only [List.length_append]; omega)
      refine ⟨Cs', Z, r1, r2, r3, r4, r5.trans ?_, ?_⟩
      · rw [hfl, List.append_assoc]
        exact List.Perm.append_left _ (List.Perm.append_right _ q1)
      · rw [hfl, List.append_assoc, show (Cs.flatten ++ M).length = Cs.flatten.length + 20 from by rw [List.length_append, lM]] at r6
        refine SoundL.next (SL hB hL (runX_sound mixed none_sound (st0_go n Cs.flatten.length (Cs.flatten.length + 20) 0 0 0 0 0 0 0 0 0 0 0 0 0 0 0 0 0 oB oL _ _ [] [] [] CM) ⟨leq _ _ _ (decide_eq_true (by omega)), q3 none none [], wq _ rfl (by omega), trivial⟩) ?_ (nc_names _ _)) r6
        unfold T56
        repeat (first | exact rfl | refine ⟨_, _, rfl, ?_, ?_⟩ | exact .inr ⟨rfl, rfl⟩ | exact .inl ⟨rfl, rfl⟩)
/-- A round of merges: of rows of w, two by two. -/
theorem st_in {w : Nat} (hw : 0 < w ∧ w < n) {Z : List Nat} (hZ : Z.length < w) : ∀ (m : Nat) (Cs Ds : List (List Nat)), Cs.length ≤ m → (∀ C ∈ Cs, C.length = w ∧ Srt k C) → (∀ C ∈ Ds, C.length = 2 * w ∧ Srt k C) → (Ds ++ (Cs ++ [Z])).Pairwise Ahead → (∀ s ∈ Ds.flatten ++ (Cs.flatten ++ Z), s < N) → n = (Ds.flatten ++ (Cs.flatten ++ Z)).length →
    ∃ Cs' Ds' : List (List Nat), Cs'.length ≤ 1 ∧ (∀ C ∈ Cs', C.length = w ∧ Srt k C) ∧ (∀ C ∈ Ds', C.length = 2 * w ∧ Srt k C) ∧ (Ds' ++ (Cs' ++ [Z])).Pairwise Ahead ∧ (Ds'.flatten ++ (Cs'.flatten ++ Z)).Perm (Ds.flatten ++ (Cs.flatten ++ Z)) ∧
      SoundL Try.prog [2] (.loop (loopAt Try.prog 56 2)) (T56 n CM (.int .i64 (Int.ofNat w)) (.int .i64 (Int.ofNat Ds.flatten.length)) (.int .i64 (Int.ofNat (Ds.flatten.length + 2 * w)))) (bsS (nc (Ds.flatten ++ (Cs.flatten ++ Z))) oB oL) 3 3 (.exit 4) (T56 n CM (.int .i64 (Int.ofNat w)) (.int .i64 (Int.ofNat Ds'.flatten.length)) (.int .i64 (Int.ofNat (Ds'.flatten.length + 2 * w)))) (bsS (nc (Ds'.flatten ++ (Cs'.flatten ++ Z))) oB oL) := by
  have stop : ∀ (Cs Ds : List (List Nat)), Cs.length ≤ 1 → (∀ C ∈ Cs, C.length = w ∧ Srt k C) → n = (Ds.flatten ++ (Cs.flatten ++ Z)).length →
      SoundL Try.prog [2] (.loop (loopAt Try.prog 56 2)) (T56 n CM (.int .i64 (Int.ofNat w)) (.int .i64 (Int.ofNat Ds.flatten.length)) (.int .i64 (Int.ofNat (Ds.flatten.length + 2 * w)))) (bsS (nc (Ds.flatten ++ (Cs.flatten ++ Z))) oB oL) 3 3 (.exit 4) (T56 n CM (.int .i64 (Int.ofNat w)) (.int .i64 (Int.ofNat Ds.flatten.length)) (.int .i64 (Int.ofNat (Ds.flatten.length + 2 * w)))) (bsS (nc (Ds.flatten ++ (Cs.flatten ++ Z))) oB oL) := by
    intro Cs Ds hl h1 hnn
    have hf := flat_len (w := w) (Cs := Cs) (fun C hC => (h1 C hC).1)
    simp only [List.length_append] at hnn
    have hf2 : Cs.flatten.length ≤ w := by
      rw [hf]
      calc w * Cs.length ≤ w * 1 := Nat.mul_le_mul_left w hl
        _ = w := Nat.mul_one w
    refine SoundL.stop (SL hB hL (runX_sound mixed none_sound (st2_end n Ds.flatten.length (Ds.flatten.length + 2 * w) 0 0 0 0 0 0 0 0 0 0 0 0 w 0 0 0 0 oB oL _ [] [] [] [] CM) ⟨leq _ _ _ (decide_eq_false (by omega)), trivial⟩) ?_ (nc_names _ _)) (by simp)
    unfold T56
    repeat (first | exact rfl | refine ⟨_, _, rfl, ?_, ?_⟩ | exact .inr ⟨rfl, rfl⟩ | exact .inl ⟨rfl, rfl⟩)
  intro m
  induction m with
  | zero =>
    intro Cs Ds hm h1 h2 h3 h4 hnn
    exact ⟨Cs, Ds, by omega, h1, h2, h3, List.Perm.refl _, stop Cs Ds (by omega) h1 hnn⟩
  | succ m ih =>
    intro Cs Ds hm h1 h2 h3 h4 hnn
    match Cs, hm, h1, h3, h4, hnn with
    | [], _, h1, h3, h4, hnn => exact ⟨[], Ds, by simp, h1, h2, h3, List.Perm.refl _, stop [] Ds (by simp) h1 hnn⟩
    | [C], _, h1, h3, h4, hnn => exact ⟨[C], Ds, by simp, h1, h2, h3, List.Perm.refl _, stop [C] Ds (by simp) h1 hnn⟩
    | C1 :: C2 :: Cs, hm, h1, h3, h4, hnn =>
      have k1 := h1 C1 (by simp)
      have k2 := h1 C2 (by simp)
      have hah : Ahead C1 C2 := (List.pairwise_cons.1 (List.pairwise_append.1 h3).2.1).1 C2 (by simp)
      have eD : Ds.flatten ++ ((C1 :: C2 :: Cs).flatten ++ Z) = Ds.flatten ++ (C1 ++ (C2 ++ (Cs.flatten ++ Z))) := by simp
      rw [eD] at h4 hnn
      simp only [List.length_append] at hnn
      obtain ⟨M, q1, q2, q3⟩ := sm_all hB hL hn hcmp (C1.length + C2.length) Ds.flatten.length (Ds.flatten.length + w) (Ds.flatten.length + 2 * w) Ds.flatten C1 C2 (Cs.flatten ++ Z) (Nat.le_refl _) (fun h => by rw [h] at k1; simp at k1; omega) (fun h => by rw [h] at k2; simp at k2; omega) rfl (by omega) (by omega) (by simp only [List.length_append]; omega) k1.2 k2.2 hah h4
      have lM : M.length = 2 * w := by rw [q1.length_eq, List.length_append]; omega
      have hfl : (Ds ++ [M]).flatten = Ds.flatten ++ M := by simp
      have h3' : ((Ds ++ [M]) ++ (Cs ++ [Z])).Pairwise Ahead := by
        have := pw_merge (L1 := Ds) (L2 := Cs ++ [Z]) (C1 := C1) (C2 := C2) (by simpa using h3) q1
        simpa using this
      obtain ⟨Cs', Ds', r1, r2, r3, r4, r5, r6⟩ := ih Cs (Ds ++ [M]) (by simp at hm; omega) (fun C hC => h1 C (by simp [hC])) (fun C hC => by
        rcases List.mem_append.1 hC with h | h
        · exact h2 C h
        · simp only [List.mem_singleton] at h
          subst h
          exact ⟨lM, q2⟩) h3' (fun s hs => h4 s (by
        rw [hfl] at hs
        simp only [List.mem_append] at hs ⊢
        rcases hs with (h | h) | h | h
        · exact .inl h
        · rcases List.mem_append.1 (q1.mem_iff.1 h) with h | h
          · exact .inr (.inl h)
          · exact .inr (.inr (.inl h))
        · exact .inr (.inr (.inr (.inl h)))
        · exact .inr (.inr (.inr (.inr h))))) (by rw [hfl]; simp only [List.length_append]; omega)
      refine ⟨Cs', Ds', r1, r2, r3, r4, r5.trans ?_, ?_⟩
      · rw [hfl, eD, List.append_assoc]
        refine List.Perm.append_left _ ?_
        rw [← List.append_assoc C1 C2]
        exact List.Perm.append_right _ q1
      · rw [hfl, List.append_assoc, show (Ds.flatten ++ M).length = Ds.flatten.length + 2 * w from by rw [List.length_append, lM]] at r6
        rw [eD]
        refine SoundL.next (SL hB hL (runX_sound mixed none_sound (st2_go n Ds.flatten.length (Ds.flatten.length + 2 * w) 0 0 0 0 0 0 0 0 0 0 0 0 w 0 0 0 0 oB oL _ _ [] [] [] CM) ⟨leq _ _ _ (decide_eq_true (by omega)), wq _ rfl (by omega), q3 none none [], wq _ rfl (by omega), wq _ rfl (by omega), trivial⟩) ?_ (nc_names _ _)) r6
        unfold T56
        repeat (first | exact rfl | refine ⟨_, _, rfl, ?_, ?_⟩ | exact .inr ⟨rfl, rfl⟩ | exact .inl ⟨rfl, rfl⟩)
/-- All rounds. -/
theorem st_out : ∀ (m w : Nat) (Cs : List (List Nat)) (Z : List Nat), n - w ≤ m → 0 < w → w ≤ 2 * n + 20 → (∀ C ∈ Cs, C.length = w ∧ Srt k C) → Z.length < w → Srt k Z → (Cs ++ [Z]).Pairwise Ahead → (∀ s ∈ Cs.flatten ++ Z, s < N) → n = (Cs.flatten ++ Z).length →
    ∃ (w' : Nat) (D' : List Nat), Srt k D' ∧ D'.Perm (Cs.flatten ++ Z) ∧
      SoundL Try.prog [2] (.loop (loopAt Try.prog 56 1)) (T56 n CM (.int .i64 (Int.ofNat w)) uu uu) (bsS (nc (Cs.flatten ++ Z)) oB oL) 3 3 (.exit 2) (T56 n CM (.int .i64 (Int.ofNat w')) uu uu) (bsS (nc D') oB oL) := by
  have stop : ∀ (w : Nat) (Cs : List (List Nat)) (Z : List Nat), n ≤ w → 0 < w → (∀ C ∈ Cs, C.length = w ∧ Srt k C) → Srt k Z → n = (Cs.flatten ++ Z).length →
      ∃ (w' : Nat) (D' : List Nat), Srt k D' ∧ D'.Perm (Cs.flatten ++ Z) ∧
      SoundL Try.prog [2] (.loop (loopAt Try.prog 56 1)) (T56 n CM (.int .i64 (Int.ofNat w)) uu uu) (bsS (nc (Cs.flatten ++ Z)) oB oL) 3 3 (.exit 2) (T56 n CM (.int .i64 (Int.ofNat w')) uu uu) (bsS (nc D') oB oL) := by
    intro w Cs Z hw hw0 h1 hZ hnn
    refine ⟨w, Cs.flatten ++ Z, ?_, List.Perm.refl _, ?_⟩
    · match Cs, h1, hnn with
      | [], _, _ => simpa using hZ
      | [C], h1, hnn =>
        have := (h1 C (by simp)).1
        simp at hnn
        have hz : Z = [] := List.eq_nil_of_length_eq_zero (by omega)
        subst hz
        simpa using (h1 C (by simp)).2
      | C1 :: C2 :: Cs, h1, hnn =>
        have := (h1 C1 (by simp)).1
        have := (h1 C2 (by simp)).1
        simp only [List.flatten_cons, List.length_append] at hnn
        omega
    · refine SoundL.stop (SL hB hL (runX_sound mixed none_sound (st1_end n 0 0 0 0 0 0 0 0 0 0 0 0 0 0 w 0 0 0 0 oB oL _ [] [] [] [] CM) ⟨ltq _ _ _ (decide_eq_false (by omega)), trivial⟩) ?_ (nc_names _ _)) (by simp)
      unfold T56
      repeat (first | exact rfl | refine ⟨_, _, rfl, ?_, ?_⟩ | exact .inr ⟨rfl, rfl⟩ | exact .inl ⟨rfl, rfl⟩)
  intro m
  induction m with
  | zero =>
    intro w Cs Z hm hw hw2 h1 h2 h3 h4 h5 hnn
    exact stop w Cs Z (by omega) hw h1 h3 hnn
  | succ m ih =>
    intro w Cs Z hm hw hw2 h1 h2 h3 h4 h5 hnn
    by_cases hwn : n ≤ w
    · exact stop w Cs Z hwn hw h1 h3 hnn
    obtain ⟨Cs', Ds', r1, r2, r3, r4, r5, r6⟩ := st_in hB hL hn hcmp (w := w) ⟨hw, by omega⟩ h2 Cs.length Cs [] (Nat.le_refl _) h1 (fun C hC => by cases hC) (by simpa using h4) (fun s hs => h5 s (by simpa using hs)) (by simpa using hnn)
    simp only [List.flatten_nil, List.nil_append, List.length_nil, Nat.zero_add] at r5 r6
    have hln := r5.length_eq
    rw [← hnn] at hln
    have hN' : ∀ s ∈ Ds'.flatten ++ (Cs'.flatten ++ Z), s < N := fun s hs => h5 s (r5.mem_iff.1 hs)
    simp only [List.length_append] at hln
    have hf := flat_len (w := w) (Cs := Cs') (fun C hC => (r2 C hC).1)
    by_cases hlast : Ds'.flatten.length + w < n
    · -- one row of w, and a rest
      match Cs', r1, r2, r4, r5, r6, hN', hf with
      | [], _, _, _, _, _, _, hf =>
        simp only [List.flatten_nil, List.length_nil, Nat.zero_add] at hln
        omega
      | [C], _, r2, r4, r5, r6, hN', hf =>
        have kC := r2 C (by simp)
        simp only [List.flatten_cons, List.flatten_nil, List.append_nil] at r5 r6 hN' hln
        have hah : Ahead C Z := (List.pairwise_cons.1 (List.pairwise_append.1 r4).2.1).1 Z (by simp)
        obtain ⟨M, q1, q2, q3⟩ := sm_all hB hL hn hcmp (C.length + Z.length) Ds'.flatten.length (Ds'.flatten.length + w) n Ds'.flatten C Z [] (Nat.le_refl _) (fun h => by rw [h] at kC; simp at kC; omega) (fun h => by rw [h] at hln; simp only [List.length_nil, Nat.add_zero] at hln; omega) rfl (by omega) (by omega) (by simp) kC.2 h3 hah (by simpa using hN')
        simp only [List.append_nil] at q3
        have lM : M.length < 2 * w := by rw [q1.length_eq, List.length_append]; omega
        have r4' : (Ds' ++ [M]).Pairwise Ahead := pw_merge (L1 := Ds') (L2 := []) (C1 := C) (C2 := Z) (by simpa using r4) q1
        obtain ⟨w', D', t1, t2, t3⟩ := ih (2 * w) Ds' M (by omega) (by omega) (by omega) r3 lM q2 r4' (fun s hs => hN' s (by
          simp only [List.mem_append] at hs ⊢
          rcases hs with h | h
          · exact .inl h
          · exact .inr (List.mem_append.1 (q1.mem_iff.1 h)))) (by rw [List.length_append, q1.length_eq, List.length_append]; omega)
        refine ⟨w', D', t1, t2.trans ((List.Perm.append_left _ q1).trans r5), ?_⟩
        refine SoundL.next (SL hB hL (runX_sound mixed none_sound (st1_go1 n Ds'.flatten.length (Ds'.flatten.length + 2 * w) 0 0 0 0 0 0 0 0 0 0 0 0 w 0 0 0 0 oB oL _ _ _ [] [] CM) ⟨ltq _ _ _ (decide_eq_true (by omega)), wq _ rfl (by omega), Sound.enter (r6 none none []) ?_, wq _ rfl (by omega), ltq _ _ _ (decide_eq_true (by omega)), q3 none none [2], wq _ (by simp only [Int.ofNat_eq_natCast]; omega) (by omega), trivial⟩) ?_ (nc_names _ _)) t3
        · unfold T56
          repeat (first | exact rfl | refine ⟨_, _, rfl, ?_, ?_⟩ | exact .inr ⟨rfl, rfl⟩ | exact .inl ⟨rfl, rfl⟩ | exact see_same _)
        · unfold T56
          repeat (first | exact rfl | refine ⟨_, _, rfl, ?_, ?_⟩ | exact .inr ⟨rfl, rfl⟩ | exact .inl ⟨rfl, rfl⟩)
      | C1 :: C2 :: Cs', r1, _, _, _, _, _, _ => simp at r1
    · -- what is left is sorted
      have hZ' : Srt k (Cs'.flatten ++ Z) ∧ (Cs'.flatten ++ Z).length < 2 * w ∧ (Ds' ++ [Cs'.flatten ++ Z]).Pairwise Ahead := by
        match Cs', r1, r2, r4, hf with
        | [], _, _, r4, _ => exact ⟨by simpa using h3, by simp; omega, by simpa using r4⟩
        | [C], _, r2, r4, hf =>
          have kC := r2 C (by simp)
          simp only [List.flatten_cons, List.flatten_nil, List.append_nil] at hln
          have hz : Z = [] := List.eq_nil_of_length_eq_zero (by omega)
          subst hz
          refine ⟨by simpa using kC.2, by simp; omega, ?_⟩
          simp only [List.flatten_cons, List.flatten_nil, List.append_nil]
          have := List.pairwise_append.1 r4
          rw [List.pairwise_append]
          refine ⟨this.1, by simp, fun D hD E hE => ?_⟩
          simp only [List.mem_singleton] at hE
          rw [hE]
          exact this.2.2 D hD C (by simp)
        | C1 :: C2 :: Cs', r1, _, _, _ => simp at r1
      obtain ⟨w', D', t1, t2, t3⟩ := ih (2 * w) Ds' (Cs'.flatten ++ Z) (by omega) (by omega) (by omega) r3 hZ'.2.1 hZ'.1 hZ'.2.2 hN' (by rw [List.length_append, List.length_append]; omega)
      refine ⟨w', D', t1, t2.trans r5, ?_⟩
      refine SoundL.next (SL hB hL (runX_sound mixed none_sound (st1_go0 n Ds'.flatten.length (Ds'.flatten.length + 2 * w) 0 0 0 0 0 0 0 0 0 0 0 0 w 0 0 0 0 oB oL _ _ [] [] [] CM) ⟨ltq _ _ _ (decide_eq_true (by omega)), wq _ rfl (by omega), Sound.enter (r6 none none []) ?_, wq _ rfl (by omega), ltq _ _ _ (decide_eq_false (by omega)), wq _ (by simp only [Int.ofNat_eq_natCast]; omega) (by omega), trivial⟩) ?_ (nc_names _ _)) t3
      · unfold T56
        repeat (first | exact rfl | refine ⟨_, _, rfl, ?_, ?_⟩ | exact .inr ⟨rfl, rfl⟩ | exact .inl ⟨rfl, rfl⟩ | exact see_same _)
      · unfold T56
        repeat (first | exact rfl | refine ⟨_, _, rfl, ?_, ?_⟩ | exact .inr ⟨rfl, rfl⟩ | exact .inl ⟨rfl, rfl⟩)
/-- slices.SortStableFunc on a row of rising numbers. -/
theorem stable_all {D : List Nat} (hD : n = D.length) (hs : D.Pairwise (· < ·)) (hN : ∀ s ∈ D, s < N) : ∃ D' : List Nat, D'.Perm D ∧ Srt k D' ∧ CallS 36 [.osl 2 0 n 1, CM] oB oL D D' := by
  obtain ⟨Cs, Z, r1, r2, r3, r4, r5, r6⟩ := st_first hB hL hn hcmp D.length [] D (Nat.le_refl _) (fun C hC => by cases hC) hs (by simp) (by simpa using hN) (by simpa using hD)
  simp only [List.flatten_nil, List.nil_append, List.length_nil, Nat.zero_add] at r5 r6
  have hln := r5.length_eq
  rw [List.length_append, ← hD] at hln
  have hN1 : ∀ s ∈ Cs.flatten ++ Z, s < N := fun s h => hN s (r5.mem_iff.1 h)
  obtain ⟨Z', q1, q2, q3⟩ := is_all hB hL hn hcmp (a := Cs.flatten.length) (b := n) (P := Cs.flatten) (B := Z) (T := []) rfl (by omega) (by simp) r3 (fun s h => hN1 s (by simp [h]))
  simp only [List.append_nil] at q3
  have r4' : (Cs ++ [Z']).Pairwise Ahead := by
    have := List.pairwise_append.1 r4
    rw [List.pairwise_append]
    refine ⟨this.1, by simp, fun C hC E hE x hx y hy => ?_⟩
    simp only [List.mem_singleton] at hE
    subst hE
    exact this.2.2 C hC Z (by simp) x hx y (q1.mem_iff.1 hy)
  obtain ⟨w', D', t1, t2, t3⟩ := st_out hB hL hn hcmp n 20 Cs Z' (by omega) (by omega) (by omega) r1 (by rw [q1.length_eq]; exact r2) q2 r4' (fun s h => hN1 s (by
    simp only [List.mem_append] at h ⊢
    rcases h with h | h
    · exact .inl h
    · exact .inr (q1.mem_iff.1 h))) (by rw [List.length_append, q1.length_eq]; omega)
  refine ⟨D', t2.trans ((List.Perm.append_left _ q1).trans r5), t1, ?_⟩
  have c56 : CallS 56 [.osl 2 0 n 1, .int .i64 (Int.ofNat n), CM] oB oL D D' := by
    intro esc esc' W
    refine CS hB hL (runX_sound mixed none_sound (st_call n Cs.flatten.length (Cs.flatten.length + 20) 0 0 0 0 0 0 0 0 0 0 0 0 w' 0 0 0 0 oB oL _ _ _ _ [] CM) ⟨Sound.enter (r6 none none []) ?_, q3 none none [2], Sound.enter (t3 none none [2, 2]) ?_, trivial⟩) (nc_names _ _) esc esc' W
    · unfold T56
      repeat (first | exact rfl | refine ⟨_, _, rfl, ?_, ?_⟩ | exact .inr ⟨rfl, rfl⟩ | exact .inl ⟨rfl, rfl⟩ | exact see_same _)
    · unfold T56
      repeat (first | exact rfl | refine ⟨_, _, rfl, ?_, ?_⟩ | exact .inr ⟨rfl, rfl⟩ | exact .inl ⟨rfl, rfl⟩ | exact see_same _)
  intro esc esc' W
  exact CS hB hL (runX_sound mixed none_sound (ss_call n 0 0 0 0 0 0 0 0 0 0 0 0 0 0 0 0 0 0 0 oB oL _ _ [] [] [] CM) ⟨c56 none none [], trivial⟩) (nc_names _ _) esc esc' W
end
end Go.Proofs.Ythooafgfpnedhaa.specsJudge
