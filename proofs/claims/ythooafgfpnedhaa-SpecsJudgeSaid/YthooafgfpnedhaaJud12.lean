/- The merging of two pieces, and its proof. Conditions: those that each theorem names, and no others. -/
import Derived.Test.YthooafgfpnedhaaJud11
namespace Go.Proofs.Ythooafgfpnedhaa.specsJudge
open Go Go.Mini
theorem sm_tail {oB oL : AObj} (hB : oB.names (fun c => Nat.blt c 3) = true) (hL : oL.names (fun c => Nat.blt c 3) = true) {n a m b mid nn p g : Nat} {P A1 A2 B1 B2 M1 M2 T : List Nat} (hbn : b ≤ n ∧ n < 1000000) (ha2 : a + 2 ≤ m) (hb2 : m + 2 ≤ b) (hmid : mid = (a + b) / 2) (hnq : nn = mid + m) (hp : p = nn - 1) (hg : a ≤ g ∧ g ≤ m)
    (lA1 : A1.length = g - a) (lA2 : A2.length = m - g) (lB1 : B1.length = nn - g - m) (lB2 : B2.length = b - (nn - g))
    (h4 : (mid < m ∧ SoundL Try.prog [] (.loop (loopAt Try.prog 63 4)) (T63 n a m b uu uu uu uu uu uu (.int .i64 (Int.ofNat mid)) (.int .i64 (Int.ofNat nn)) (.int .i64 (Int.ofNat (nn - b))) (.int .i64 (Int.ofNat mid)) (.int .i64 (Int.ofNat p))) (bsS (nc (P ++ ((A1 ++ A2) ++ ((B1 ++ B2) ++ T)))) oB oL) 3 3 (.exit 8) (T63 n a m b uu uu uu uu uu uu (.int .i64 (Int.ofNat mid)) (.int .i64 (Int.ofNat nn)) (.int .i64 (Int.ofNat g)) (.int .i64 (Int.ofNat g)) (.int .i64 (Int.ofNat p))) (bsS (nc (P ++ ((A1 ++ A2) ++ ((B1 ++ B2) ++ T)))) oB oL)) ∨
         (¬ mid < m ∧ SoundL Try.prog [] (.loop (loopAt Try.prog 63 4)) (T63 n a m b uu uu uu uu uu uu (.int .i64 (Int.ofNat mid)) (.int .i64 (Int.ofNat nn)) (.int .i64 (Int.ofNat a)) (.int .i64 (Int.ofNat m)) (.int .i64 (Int.ofNat p))) (bsS (nc (P ++ ((A1 ++ A2) ++ ((B1 ++ B2) ++ T)))) oB oL) 3 3 (.exit 8) (T63 n a m b uu uu uu uu uu uu (.int .i64 (Int.ofNat mid)) (.int .i64 (Int.ofNat nn)) (.int .i64 (Int.ofNat g)) (.int .i64 (Int.ofNat g)) (.int .i64 (Int.ofNat p))) (bsS (nc (P ++ ((A1 ++ A2) ++ ((B1 ++ B2) ++ T)))) oB oL)))
    (rot : A2 ≠ [] → B1 ≠ [] → CallS 75 [.osl 2 0 n 1, .int .i64 (Int.ofNat g), .int .i64 (Int.ofNat m), .int .i64 (Int.ofNat (nn - g)), CM] oB oL (P ++ ((A1 ++ A2) ++ ((B1 ++ B2) ++ T))) (P ++ (A1 ++ (B1 ++ (A2 ++ (B2 ++ T))))))
    (rot0 : (A2 = [] ∨ B1 = []) → P ++ (A1 ++ (B1 ++ (A2 ++ (B2 ++ T)))) = P ++ ((A1 ++ A2) ++ ((B1 ++ B2) ++ T)))
    (cl : A1 ≠ [] → B1 ≠ [] → CallS 63 [.osl 2 0 n 1, .int .i64 (Int.ofNat a), .int .i64 (Int.ofNat g), .int .i64 (Int.ofNat mid), CM] oB oL (P ++ (A1 ++ (B1 ++ (A2 ++ (B2 ++ T))))) (P ++ (M1 ++ (A2 ++ (B2 ++ T)))))
    (left0 : (A1 = [] ∨ B1 = []) → P ++ (M1 ++ (A2 ++ (B2 ++ T))) = P ++ (A1 ++ (B1 ++ (A2 ++ (B2 ++ T)))))
    (cr : A2 ≠ [] → B2 ≠ [] → CallS 63 [.osl 2 0 n 1, .int .i64 (Int.ofNat mid), .int .i64 (Int.ofNat (nn - g)), .int .i64 (Int.ofNat b), CM] oB oL (P ++ (M1 ++ (A2 ++ (B2 ++ T)))) (P ++ (M1 ++ (M2 ++ T))))
    (right0 : (A2 = [] ∨ B2 = []) → P ++ (M1 ++ (M2 ++ T)) = P ++ (M1 ++ (A2 ++ (B2 ++ T)))) :
    CallS 63 [.osl 2 0 n 1, .int .i64 (Int.ofNat a), .int .i64 (Int.ofNat m), .int .i64 (Int.ofNat b), CM] oB oL (P ++ ((A1 ++ A2) ++ ((B1 ++ B2) ++ T))) (P ++ (M1 ++ (M2 ++ T))) := by
    have nz : ∀ {X : List Nat}, X.length ≠ 0 → X ≠ [] := fun h h2 => h (by rw [h2]; rfl)
    have zn : ∀ {X : List Nat}, X.length = 0 → X = [] := fun h => List.eq_nil_of_length_eq_zero h
    rcases h4 with ⟨hbig, h4⟩ | ⟨hbig, h4⟩
    · by_cases fa : a < g
      · by_cases fb : g < m
        · by_cases fc : m < nn - g
          · by_cases fd : nn - g < b
            · exact mgT_1_1111 hB hL hbn (by omega) (by omega) hmid hnq hp hg rfl hbig rfl h4 (by omega) (by omega) (by omega) (by omega) (rot (nz (by omega)) (nz (by omega))) (cl (nz (by omega)) (nz (by omega))) (cr (nz (by omega)) (nz (by omega)))
            · have t0 := right0 (.inr (zn (by omega)))
              rw [t0]
              exact mgT_1_1110 hB hL hbn (by omega) (by omega) hmid hnq hp hg rfl hbig rfl h4 (by omega) (by omega) (by omega) (by omega) (rot (nz (by omega)) (nz (by omega))) (cl (nz (by omega)) (nz (by omega)))
          · have r0 := rot0 (.inr (zn (by omega)))
            have l0 := left0 (.inr (zn (by omega)))
            rw [l0] at cr
            rw [r0] at cr
            exact mgT_1_1101 hB hL hbn (by omega) (by omega) hmid hnq hp hg rfl hbig rfl h4 (by omega) (by omega) (by omega) (by omega) (cr (nz (by omega)) (nz (by omega)))
        · by_cases fc : m < nn - g
          · by_cases fd : nn - g < b
            · have r0 := rot0 (.inl (zn (by omega)))
              have t0 := right0 (.inl (zn (by omega)))
              rw [t0]
              rw [r0] at cl
              exact mgT_1_1011 hB hL hbn (by omega) (by omega) hmid hnq hp hg rfl hbig rfl h4 (by omega) (by omega) (by omega) (by omega) (cl (nz (by omega)) (nz (by omega)))
            · have r0 := rot0 (.inl (zn (by omega)))
              have t0 := right0 (.inl (zn (by omega)))
              rw [t0]
              rw [r0] at cl
              exact mgT_1_1010 hB hL hbn (by omega) (by omega) hmid hnq hp hg rfl hbig rfl h4 (by omega) (by omega) (by omega) (by omega) (cl (nz (by omega)) (nz (by omega)))
          · have r0 := rot0 (.inl (zn (by omega)))
            have l0 := left0 (.inr (zn (by omega)))
            have t0 := right0 (.inl (zn (by omega)))
            rw [t0]
            rw [l0]
            rw [r0]
            exact mgT_1_1001 hB hL hbn (by omega) (by omega) hmid hnq hp hg rfl hbig rfl h4 (by omega) (by omega) (by omega) (by omega)
      · by_cases fc : m < nn - g
        · by_cases fd : nn - g < b
          · have l0 := left0 (.inl (zn (by omega)))
            rw [l0] at cr
            exact mgT_1_0111 hB hL hbn (by omega) (by omega) hmid hnq hp hg rfl hbig rfl h4 (by omega) (by omega) (by omega) (by omega) (rot (nz (by omega)) (nz (by omega))) (cr (nz (by omega)) (nz (by omega)))
          · have l0 := left0 (.inl (zn (by omega)))
            have t0 := right0 (.inr (zn (by omega)))
            rw [t0]
            rw [l0]
            exact mgT_1_0110 hB hL hbn (by omega) (by omega) hmid hnq hp hg rfl hbig rfl h4 (by omega) (by omega) (by omega) (by omega) (rot (nz (by omega)) (nz (by omega)))
        · have r0 := rot0 (.inr (zn (by omega)))
          have l0 := left0 (.inl (zn (by omega)))
          rw [l0] at cr
          rw [r0] at cr
          exact mgT_1_0101 hB hL hbn (by omega) (by omega) hmid hnq hp hg rfl hbig rfl h4 (by omega) (by omega) (by omega) (by omega) (cr (nz (by omega)) (nz (by omega)))
    · by_cases fa : a < g
      · by_cases fb : g < m
        · by_cases fc : m < nn - g
          · by_cases fd : nn - g < b
            · exact mgT_0_1111 hB hL hbn (by omega) (by omega) hmid hnq hp hg rfl hbig h4 (by omega) (by omega) (by omega) (by omega) (rot (nz (by omega)) (nz (by omega))) (cl (nz (by omega)) (nz (by omega))) (cr (nz (by omega)) (nz (by omega)))
            · have t0 := right0 (.inr (zn (by omega)))
              rw [t0]
              exact mgT_0_1110 hB hL hbn (by omega) (by omega) hmid hnq hp hg rfl hbig h4 (by omega) (by omega) (by omega) (by omega) (rot (nz (by omega)) (nz (by omega))) (cl (nz (by omega)) (nz (by omega)))
          · have r0 := rot0 (.inr (zn (by omega)))
            have l0 := left0 (.inr (zn (by omega)))
            rw [l0] at cr
            rw [r0] at cr
            exact mgT_0_1101 hB hL hbn (by omega) (by omega) hmid hnq hp hg rfl hbig h4 (by omega) (by omega) (by omega) (by omega) (cr (nz (by omega)) (nz (by omega)))
        · by_cases fc : m < nn - g
          · by_cases fd : nn - g < b
            · have r0 := rot0 (.inl (zn (by omega)))
              have t0 := right0 (.inl (zn (by omega)))
              rw [t0]
              rw [r0] at cl
              exact mgT_0_1011 hB hL hbn (by omega) (by omega) hmid hnq hp hg rfl hbig h4 (by omega) (by omega) (by omega) (by omega) (cl (nz (by omega)) (nz (by omega)))
            · have r0 := rot0 (.inl (zn (by omega)))
              have t0 := right0 (.inl (zn (by omega)))
              rw [t0]
              rw [r0] at cl
              exact mgT_0_1010 hB hL hbn (by omega) (by omega) hmid hnq hp hg rfl hbig h4 (by omega) (by omega) (by omega) (by omega) (cl (nz (by omega)) (nz (by omega)))
          · have r0 := rot0 (.inl (zn (by omega)))
            have l0 := left0 (.inr (zn (by omega)))
            have t0 := right0 (.inl (zn (by omega)))
            rw [t0]
            rw [l0]
            rw [r0]
            exact mgT_0_1001 hB hL hbn (by omega) (by omega) hmid hnq hp hg rfl hbig h4 (by omega) (by omega) (by omega) (by omega)
      · by_cases fc : m < nn - g
        · by_cases fd : nn - g < b
          · have l0 := left0 (.inl (zn (by omega)))
            rw [l0] at cr
            exact mgT_0_0111 hB hL hbn (by omega) (by omega) hmid hnq hp hg rfl hbig h4 (by omega) (by omega) (by omega) (by omega) (rot (nz (by omega)) (nz (by omega))) (cr (nz (by omega)) (nz (by omega)))
          · have l0 := left0 (.inl (zn (by omega)))
            have t0 := right0 (.inr (zn (by omega)))
            rw [t0]
            rw [l0]
            exact mgT_0_0110 hB hL hbn (by omega) (by omega) hmid hnq hp hg rfl hbig h4 (by omega) (by omega) (by omega) (by omega) (rot (nz (by omega)) (nz (by omega)))
        · have r0 := rot0 (.inr (zn (by omega)))
          have l0 := left0 (.inl (zn (by omega)))
          rw [l0] at cr
          rw [r0] at cr
          exact mgT_0_0101 hB hL hbn (by omega) (by omega) hmid hnq hp hg rfl hbig h4 (by omega) (by omega) (by omega) (by omega) (cr (nz (by omega)) (nz (by omega)))
section
variable {k : Nat → Int} {N : Nat} {oB oL : AObj} (hB : oB.names (fun c => Nat.blt c 3) = true) (hL : oL.names (fun c => Nat.blt c 3) = true) {n : Nat} (hn : n < 1000000) (hcmp : CmpS k N oB oL)
include hB hL hn hcmp
/-- One number ahead of a row. -/
theorem sm_left {a m b x : Nat} {P B T : List Nat} (ha : a = P.length) (hm : m = a + 1) (hb : b = m + B.length) (hnn : n = b + T.length) (hs : Srt k B) (hah : Ahead [x] B) (hN : ∀ s ∈ P ++ ([x] ++ (B ++ T)), s < N) :
    ∃ M : List Nat, M.Perm ([x] ++ B) ∧ Srt k M ∧ CallS 63 [.osl 2 0 n 1, .int .i64 (Int.ofNat a), .int .i64 (Int.ofNat m), .int .i64 (Int.ofNat b), CM] oB oL (P ++ ([x] ++ (B ++ T))) (P ++ (M ++ T)) := by
  have hlen : (P ++ ([x] ++ (B ++ T))).length = n := by simp; omega
  have hx : (P ++ ([x] ++ (B ++ T)))[a]? = some x := get_at (P := P) (T := B ++ T) (by simp) ha
  have gB : ∀ c, c < B.length → (P ++ ([x] ++ (B ++ T)))[m + c]? = B[c]? := by
    intro c hc
    rw [List.getElem?_append_right (by omega), show m + c - P.length = c + 1 from by omega]
    show (x :: (B ++ T))[c + 1]? = _
    rw [List.getElem?_cons_succ, List.getElem?_append_left hc]
  obtain ⟨p, p1, p2, p3, p4, p5⟩ := m0_loop hn hcmp (oB := oB) (oL := oL) (a := a) (m := m) (b := b) hx hlen hN (by omega) (b - m) m b (Nat.le_refl _) (by omega) (Nat.le_refl _) (Nat.le_refl _) (.l rfl) (.l rfl)
  have hB1 : ∀ y ∈ B.take (p - m), k y < k x := by
    rcases p3 with h | ⟨y, h3, h4⟩
    · rw [show p - m = 0 from by omega]
      intro y hy
      simp at hy
    · by_cases hpm : p = m
      · rw [show p - m = 0 from by omega]
        intro y hy
        simp at hy
      · have := gB (p - m - 1) (by omega)
        rw [show m + (p - m - 1) = p - 1 from by omega, h3] at this
        exact take_last hs (by omega) this.symm h4
  have hB2 : ∀ y ∈ B.drop (p - m), k x ≤ k y := by
    rcases p4 with h | ⟨y, h3, h4⟩
    · rw [List.drop_eq_nil_of_le (by omega)]
      intro y hy
      cases hy
    · by_cases hpb : p = b
      · rw [List.drop_eq_nil_of_le (by omega)]
        intro y hy
        cases hy
      · have := gB (p - m) (by omega)
        rw [show m + (p - m) = p from by omega, h3] at this
        exact drop_first hs this.symm h4
  have hcut : B.take (p - m) ++ B.drop (p - m) = B := List.take_append_drop _ _
  generalize hq1 : B.take (p - m) = B1 at hB1 hcut
  generalize hq2 : B.drop (p - m) = B2 at hB2 hcut
  have l1 : B1.length = p - m := by rw [← hq1]; simp; omega
  subst hcut
  have l2 : B1.length + B2.length = b - m := by
    simp at hb
    omega
  refine ⟨B1 ++ x :: B2, ?_, srt_left hs hB1 hB2 hah, fun esc esc' W => ?_⟩
  · have : (B1 ++ x :: B2).Perm (x :: (B1 ++ B2)) := List.perm_middle
    exact this
  · have h1 := m1_loop (oB := oB) (oL := oL) hB hL hn (a := a) (m := m) (b := b) (P := P) (T := B2 ++ T) (x := x) (i := p) ha B1 [] (by simp; omega) (by simp; omega) none none []
    have e1 : P ++ ([] ++ x :: (B1 ++ (B2 ++ T))) = P ++ ([x] ++ ((B1 ++ B2) ++ T)) := by simp
    have e2 : P ++ ([] ++ (B1 ++ x :: (B2 ++ T))) = P ++ ((B1 ++ x :: B2) ++ T) := by simp
    rw [e1, e2] at h1
    refine CS hB hL (runX_sound mixed none_sound (mc_1 n a b m p 0 0 (p - 1) 0 0 0 0 0 0 0 0 0 0 0 0 oB oL _ _ [] [] [] .nilFunc) ⟨sub_q (by omega) rfl (by omega), eqq _ _ _ (by simp; omega), Sound.enter (p5 none none []) ?_, Sound.enter h1 ?_, trivial⟩) (nc_names _ _) esc esc' W
    · unfold T63
      repeat (first | exact rfl | refine ⟨_, _, rfl, ?_, ?_⟩ | exact .inr ⟨rfl, rfl⟩ | exact .inl ⟨rfl, rfl⟩ | exact see_same _)
    · unfold T63
      repeat (first | exact rfl | refine ⟨_, _, rfl, ?_, ?_⟩ | exact .inr ⟨rfl, rfl⟩ | exact .inl ⟨rfl, rfl⟩ | exact see_same _)
/-- One number behind a row. -/
theorem sm_right {a m b y : Nat} {P A T : List Nat} (ha : a = P.length) (hm : m = a + A.length) (hA1 : A.length ≠ 1) (hb : b = m + 1) (hnn : n = b + T.length) (hs : Srt k A) (hah : Ahead A [y]) (hN : ∀ s ∈ P ++ (A ++ ([y] ++ T)), s < N) :
    ∃ M : List Nat, M.Perm (A ++ [y]) ∧ Srt k M ∧ CallS 63 [.osl 2 0 n 1, .int .i64 (Int.ofNat a), .int .i64 (Int.ofNat m), .int .i64 (Int.ofNat b), CM] oB oL (P ++ (A ++ ([y] ++ T))) (P ++ (M ++ T)) := by
  have hlen : (P ++ (A ++ ([y] ++ T))).length = n := by simp; omega
  have hy : (P ++ (A ++ ([y] ++ T)))[m]? = some y := get_at (P := P ++ A) (T := T) (by simp) (by simp; omega)
  have gA : ∀ c, c < A.length → (P ++ (A ++ ([y] ++ T)))[a + c]? = A[c]? := by
    intro c hc
    rw [List.getElem?_append_right (by omega), show a + c - P.length = c from by omega, List.getElem?_append_left hc]
  obtain ⟨p, p1, p2, p3, p4, p5⟩ := m2_loop hn hcmp (oB := oB) (oL := oL) (a := a) (m := m) (b := b) hy hlen hN (m - a) a m (Nat.le_refl _) (by omega) (Nat.le_refl _) (Nat.le_refl _) (.l rfl) (.l rfl)
  have hA1' : ∀ z ∈ A.take (p - a), k z ≤ k y := by
    rcases p3 with h | ⟨z, h3, h4⟩
    · rw [show p - a = 0 from by omega]
      intro z hz
      simp at hz
    · by_cases hpm : p = a
      · rw [show p - a = 0 from by omega]
        intro z hz
        simp at hz
      · have := gA (p - a - 1) (by omega)
        rw [show a + (p - a - 1) = p - 1 from by omega, h3] at this
        exact take_last_le hs (by omega) this.symm h4
  have hA2' : ∀ z ∈ A.drop (p - a), k y < k z := by
    rcases p4 with h | ⟨z, h3, h4⟩
    · rw [List.drop_eq_nil_of_le (by omega)]
      intro z hz
      cases hz
    · by_cases hpb : p = m
      · rw [List.drop_eq_nil_of_le (by omega)]
        intro z hz
        cases hz
      · have := gA (p - a) (by omega)
        rw [show a + (p - a) = p from by omega, h3] at this
        exact drop_first_lt hs this.symm h4
  have hcut : A.take (p - a) ++ A.drop (p - a) = A := List.take_append_drop _ _
  generalize hq1 : A.take (p - a) = A1 at hA1' hcut
  generalize hq2 : A.drop (p - a) = A2 at hA2' hcut
  have l1 : A1.length = p - a := by rw [← hq1]; simp; omega
  subst hcut
  have l2 : A1.length + A2.length = m - a := by
    simp at hm
    omega
  simp only [List.length_append] at hA1
  refine ⟨A1 ++ y :: A2, ?_, srt_right hs hA1' hA2' hah, fun esc esc' W => ?_⟩
  · have h1 : (A1 ++ y :: A2).Perm (y :: (A1 ++ A2)) := List.perm_middle
    have h2 : ((A1 ++ A2) ++ [y]).Perm (y :: (A1 ++ A2)) := List.perm_append_comm
    exact h1.trans h2.symm
  · have h1 := m3_loop (oB := oB) (oL := oL) hB hL hn (a := a) (m := m) (b := b) (P := P ++ A1) (T := T) (y := y) (i := p) (by simp; omega) A2.length A2 [] rfl (by simp; omega) none none []
    have e1 : (P ++ A1) ++ (A2 ++ y :: ([] ++ T)) = P ++ ((A1 ++ A2) ++ ([y] ++ T)) := by simp
    have e2 : (P ++ A1) ++ (y :: (A2 ++ ([] ++ T))) = P ++ ((A1 ++ y :: A2) ++ T) := by simp
    rw [e1, e2, show p + A2.length = m from by omega] at h1
    refine CS hB hL (runX_sound mixed none_sound (mc_2 n a b m p 0 0 p 0 0 0 0 0 0 0 0 0 0 0 0 oB oL _ _ [] [] [] .nilFunc) ⟨sub_q (by omega) rfl (by omega), eqq _ _ _ (by simp; omega), sub_q (by omega) rfl (by omega), eqq _ _ _ (by simp; omega), Sound.enter (p5 none none []) ?_, Sound.enter h1 ?_, trivial⟩) (nc_names _ _) esc esc' W
    · unfold T63
      repeat (first | exact rfl | refine ⟨_, _, rfl, ?_, ?_⟩ | exact .inr ⟨rfl, rfl⟩ | exact .inl ⟨rfl, rfl⟩ | exact see_same _)
    · unfold T63
      repeat (first | exact rfl | refine ⟨_, _, rfl, ?_, ?_⟩ | exact .inr ⟨rfl, rfl⟩ | exact .inl ⟨rfl, rfl⟩ | exact see_same _)
/-- Two sorted rows, the one's numbers all ahead of the other's, are merged. -/
theorem sm_all : ∀ (K a m b : Nat) (P A B T : List Nat), A.length + B.length ≤ K → A ≠ [] → B ≠ [] → a = P.length → m = a + A.length → b = m + B.length → n = b + T.length → Srt k A → Srt k B → Ahead A B → (∀ s ∈ P ++ (A ++ (B ++ T)), s < N) →
    ∃ M : List Nat, M.Perm (A ++ B) ∧ Srt k M ∧ CallS 63 [.osl 2 0 n 1, .int .i64 (Int.ofNat a), .int .i64 (Int.ofNat m), .int .i64 (Int.ofNat b), CM] oB oL (P ++ (A ++ (B ++ T))) (P ++ (M ++ T)) := by
  intro K
  induction K with
  | zero =>
    intro a m b P A B T hK hA
    exact absurd (List.eq_nil_of_length_eq_zero (by omega)) hA
  | succ K ih =>
    intro a m b P A B T hK hA hBn ha hm hb hnn sA sB hah hN
    have la0 : A.length ≠ 0 := fun h => hA (List.eq_nil_of_length_eq_zero h)
    have lb0 : B.length ≠ 0 := fun h => hBn (List.eq_nil_of_length_eq_zero h)
    by_cases la : A.length = 1
    · obtain ⟨x, rfl⟩ := List.length_eq_one_iff.1 la
      exact sm_left hB hL hn hcmp ha (by simpa using hm) hb hnn sB hah hN
    by_cases lb : B.length = 1
    · obtain ⟨y, rfl⟩ := List.length_eq_one_iff.1 lb
      exact sm_right hB hL hn hcmp ha hm la (by simpa using hb) hnn sA hah hN
    have hlen : (P ++ (A ++ (B ++ T))).length = n := by simp; omega
    generalize hmid : (a + b) / 2 = mid
    generalize hnq : mid + m = nn
    generalize hp : nn - 1 = p
    have gA : ∀ c, a ≤ c → c < m → (P ++ (A ++ (B ++ T)))[c]? = A[c - a]? := by
      intro c h1 h2
      rw [List.getElem?_append_right (by omega), ← ha, List.getElem?_append_left (by omega)]
    have gB : ∀ c, m ≤ c → c < b → (P ++ (A ++ (B ++ T)))[c]? = B[c - m]? := by
      intro c h1 h2
      rw [List.getElem?_append_right (by omega), List.getElem?_append_right (by omega), List.getElem?_append_left (by omega), show c - P.length - A.length = c - m from by omega]
    -- the search
    have search : ∃ g, a ≤ g ∧ g ≤ m ∧ m ≤ nn - g ∧ nn - g ≤ b ∧ (∀ x ∈ A.take (g - a), ∀ y ∈ B.drop (nn - g - m), k x ≤ k y) ∧ (∀ y ∈ B.take (nn - g - m), ∀ x ∈ A.drop (g - a), k y < k x) ∧
        ((mid < m ∧ SoundL Try.prog [] (.loop (loopAt Try.prog 63 4)) (T63 n a m b uu uu uu uu uu uu (.int .i64 (Int.ofNat mid)) (.int .i64 (Int.ofNat nn)) (.int .i64 (Int.ofNat (nn - b))) (.int .i64 (Int.ofNat mid)) (.int .i64 (Int.ofNat p))) (bsS (nc (P ++ (A ++ (B ++ T)))) oB oL) 3 3 (.exit 8) (T63 n a m b uu uu uu uu uu uu (.int .i64 (Int.ofNat mid)) (.int .i64 (Int.ofNat nn)) (.int .i64 (Int.ofNat g)) (.int .i64 (Int.ofNat g)) (.int .i64 (Int.ofNat p))) (bsS (nc (P ++ (A ++ (B ++ T)))) oB oL)) ∨
         (¬ mid < m ∧ SoundL Try.prog [] (.loop (loopAt Try.prog 63 4)) (T63 n a m b uu uu uu uu uu uu (.int .i64 (Int.ofNat mid)) (.int .i64 (Int.ofNat nn)) (.int .i64 (Int.ofNat a)) (.int .i64 (Int.ofNat m)) (.int .i64 (Int.ofNat p))) (bsS (nc (P ++ (A ++ (B ++ T)))) oB oL) 3 3 (.exit 8) (T63 n a m b uu uu uu uu uu uu (.int .i64 (Int.ofNat mid)) (.int .i64 (Int.ofNat nn)) (.int .i64 (Int.ofNat g)) (.int .i64 (Int.ofNat g)) (.int .i64 (Int.ofNat p))) (bsS (nc (P ++ (A ++ (B ++ T)))) oB oL))) := by
      have cross : ∀ s0 r0 g, s0 ≤ g → g ≤ r0 → a ≤ s0 → r0 ≤ m → (∀ c, s0 ≤ c → c < r0 → m ≤ p - c ∧ p - c < b ∧ c ≤ p) → m ≤ nn - g → nn - g ≤ b → (s0 = a ∨ nn - s0 = b) → (r0 = m ∨ nn - r0 = m) →
          Edge (g = s0) (∃ y x, (P ++ (A ++ (B ++ T)))[p - (g - 1)]? = some y ∧ (P ++ (A ++ (B ++ T)))[g - 1]? = some x ∧ k x ≤ k y) → Edge (g = r0) (∃ y x, (P ++ (A ++ (B ++ T)))[p - g]? = some y ∧ (P ++ (A ++ (B ++ T)))[g]? = some x ∧ k y < k x) →
          (∀ x ∈ A.take (g - a), ∀ y ∈ B.drop (nn - g - m), k x ≤ k y) ∧ (∀ y ∈ B.take (nn - g - m), ∀ x ∈ A.drop (g - a), k y < k x) := by
        intro s0 r0 g h1 h2 h3 h4 h5 h6 h7 h8 h9 lo hi
        constructor
        · by_cases hgs : g = s0
          · rcases h8 with h | h
            · rw [show g - a = 0 from by omega]
              intro x hx
              simp at hx
            · rw [List.drop_eq_nil_of_le (by omega)]
              intro x hx y hy
              cases hy
          · rcases lo with h | ⟨y, x, k1, k2, k3⟩
            · exact absurd h hgs
            · obtain ⟨q1, q2, q3⟩ := h5 (g - 1) (by omega) (by omega)
              rw [gB _ q1 q2, show p - (g - 1) - m = nn - g - m from by omega] at k1
              rw [gA _ (by omega) (by omega), show g - 1 - a = g - a - 1 from by omega] at k2
              intro x' hx' y' hy'
              have := take_last_le sA (by omega) k2 (Int.le_refl _) x' hx'
              have := drop_first sB k1 (Int.le_refl _) y' hy'
              omega
        · by_cases hgr : g = r0
          · rcases h9 with h | h
            · rw [List.drop_eq_nil_of_le (by omega)]
              intro y hy x hx
              cases hx
            · rw [show nn - g - m = 0 from by omega]
              intro y hy
              simp at hy
          · rcases hi with h | ⟨y, x, k1, k2, k3⟩
            · exact absurd h hgr
            · obtain ⟨q1, q2, q3⟩ := h5 g (by omega) (by omega)
              rw [gB _ q1 q2, show p - g - m = nn - g - m - 1 from by omega] at k1
              rw [gA _ (by omega) (by omega)] at k2
              intro y' hy' x' hx'
              have := take_last_le sB (by omega) k1 (Int.le_refl _) y' hy'
              have := drop_first sA k2 (Int.le_refl _) x' hx'
              omega
      by_cases hbig : mid < m
      · obtain ⟨g, p1, p2, p3, p4, p5⟩ := m4_loop hn hcmp (oB := oB) (oL := oL) (a := a) (m := m) (b := b) (mid := mid) (nn := nn) (p := p) (s0 := nn - b) (r0 := mid) hlen hN (fun c h1 h2 => by omega) (by omega) (mid - (nn - b)) (nn - b) mid (Nat.le_refl _) (by omega) (Nat.le_refl _) (Nat.le_refl _) (.l rfl) (.l rfl)
        obtain ⟨c1, c2⟩ := cross (nn - b) mid g p1 p2 (by omega) (by omega) (fun c h1 h2 => by omega) (by omega) (by omega) (.inr (by omega)) (.inr (by omega)) p3 p4
        exact ⟨g, by omega, by omega, by omega, by omega, c1, c2, .inl ⟨hbig, p5⟩⟩
      · obtain ⟨g, p1, p2, p3, p4, p5⟩ := m4_loop hn hcmp (oB := oB) (oL := oL) (a := a) (m := m) (b := b) (mid := mid) (nn := nn) (p := p) (s0 := a) (r0 := m) hlen hN (fun c h1 h2 => by omega) (by omega) (m - a) a m (Nat.le_refl _) (by omega) (Nat.le_refl _) (Nat.le_refl _) (.l rfl) (.l rfl)
        obtain ⟨c1, c2⟩ := cross a m g p1 p2 (by omega) (by omega) (fun c h1 h2 => by omega) (by omega) (by omega) (.inl rfl) (.inl rfl) p3 p4
        exact ⟨g, by omega, by omega, by omega, by omega, c1, c2, .inr ⟨hbig, p5⟩⟩
    obtain ⟨g, g1, g2, g3, g4, c1, c2, h4⟩ := search
    have hcA : A.take (g - a) ++ A.drop (g - a) = A := List.take_append_drop _ _
    have hcB : B.take (nn - g - m) ++ B.drop (nn - g - m) = B := List.take_append_drop _ _
    generalize hA1 : A.take (g - a) = A1 at c1 hcA
    generalize hA2 : A.drop (g - a) = A2 at c2 hcA
    generalize hB1 : B.take (nn - g - m) = B1 at c2 hcB
    generalize hB2 : B.drop (nn - g - m) = B2 at c1 hcB
    have lA1 : A1.length = g - a := by rw [← hA1]; simp; omega
    have lB1 : B1.length = nn - g - m := by rw [← hB1]; simp; omega
    have lA2 : A2.length = m - g := by rw [← hA2]; simp; omega
    have lB2 : B2.length = b - (nn - g) := by rw [← hB2]; simp; omega
    clear gA gB hA1 hA2 hB1 hB2
    subst hcA hcB
    have sA' := srt_app.1 sA
    have sB' := srt_app.1 sB
    -- the left part
    have left : ∃ M1 : List Nat, M1.Perm (A1 ++ B1) ∧ Srt k M1 ∧ ((A1 = [] ∨ B1 = []) → M1 = A1 ++ B1) ∧ (A1 ≠ [] → B1 ≠ [] → CallS 63 [.osl 2 0 n 1, .int .i64 (Int.ofNat a), .int .i64 (Int.ofNat g), .int .i64 (Int.ofNat mid), CM] oB oL (P ++ (A1 ++ (B1 ++ (A2 ++ (B2 ++ T))))) (P ++ (M1 ++ (A2 ++ (B2 ++ T))))) := by
      by_cases q1 : A1 = []
      · exact ⟨A1 ++ B1, List.Perm.refl _, by rw [q1]; exact sB'.1, fun _ => rfl, fun h => absurd q1 h⟩
      by_cases q2 : B1 = []
      · exact ⟨A1 ++ B1, List.Perm.refl _, by rw [q2, List.append_nil]; exact sA'.1, fun _ => rfl, fun _ h => absurd q2 h⟩
      obtain ⟨M1, p1, p2, p3⟩ := ih a g mid P A1 B1 (A2 ++ (B2 ++ T)) (by simp at hK; omega) q1 q2 ha (by omega) (by omega) (by simp; omega) sA'.1 sB'.1 (ahead_sub hah (fun x hx => by simp [hx]) (fun x hx => by simp [hx])) (fun s hs => hN s (by
        simp only [List.mem_append] at hs ⊢
        rcases hs with h | h | h | h | h | h
        · exact .inl h
        · exact .inr (.inl (.inl h))
        · exact .inr (.inr (.inl (.inl h)))
        · exact .inr (.inl (.inr h))
        · exact .inr (.inr (.inl (.inr h)))
        · exact .inr (.inr (.inr h))))
      exact ⟨M1, p1, p2, fun h => by rcases h with h | h <;> contradiction, fun _ _ => p3⟩
    obtain ⟨M1, p1, s1, e1, cl⟩ := left
    have lM1 : M1.length = mid - a := by rw [p1.length_eq]; simp; omega
    have right : ∃ M2 : List Nat, M2.Perm (A2 ++ B2) ∧ Srt k M2 ∧ ((A2 = [] ∨ B2 = []) → M2 = A2 ++ B2) ∧ (A2 ≠ [] → B2 ≠ [] → CallS 63 [.osl 2 0 n 1, .int .i64 (Int.ofNat mid), .int .i64 (Int.ofNat (nn - g)), .int .i64 (Int.ofNat b), CM] oB oL (P ++ (M1 ++ (A2 ++ (B2 ++ T)))) (P ++ (M1 ++ (M2 ++ T)))) := by
      by_cases q1 : A2 = []
      · exact ⟨A2 ++ B2, List.Perm.refl _, by rw [q1]; exact sB'.2.1, fun _ => rfl, fun h => absurd q1 h⟩
      by_cases q2 : B2 = []
      · exact ⟨A2 ++ B2, List.Perm.refl _, by rw [q2, List.append_nil]; exact sA'.2.1, fun _ => rfl, fun _ h => absurd q2 h⟩
      have q3 : A2.length ≠ 0 := fun h => q1 (List.eq_nil_of_length_eq_zero h)
      obtain ⟨M2, p1', p2, p3⟩ := ih mid (nn - g) b (P ++ M1) A2 B2 T (by simp at hK; omega) q1 q2 (by simp; omega) (by omega) (by omega) hnn sA'.2.1 sB'.2.1 (ahead_sub hah (fun x hx => by simp [hx]) (fun x hx => by simp [hx])) (fun s hs => hN s (by
        simp only [List.mem_append] at hs ⊢
        rcases hs with (h | h) | h | h | h
        · exact .inl h
        · rcases List.mem_append.1 (p1.mem_iff.1 h) with h | h
          · exact .inr (.inl (.inl h))
          · exact .inr (.inr (.inl (.inl h)))
        · exact .inr (.inl (.inr h))
        · exact .inr (.inr (.inl (.inr h)))
        · exact .inr (.inr (.inr h))))
      refine ⟨M2, p1', p2, fun h => by rcases h with h | h <;> contradiction, fun _ _ => ?_⟩
      rw [List.append_assoc, List.append_assoc] at p3
      exact p3
    obtain ⟨M2, p2, s2, e2, cr⟩ := right
    have rot : A2 ≠ [] → B1 ≠ [] → CallS 75 [.osl 2 0 n 1, .int .i64 (Int.ofNat g), .int .i64 (Int.ofNat m), .int .i64 (Int.ofNat (nn - g)), CM] oB oL (P ++ ((A1 ++ A2) ++ ((B1 ++ B2) ++ T))) (P ++ (A1 ++ (B1 ++ (A2 ++ (B2 ++ T))))) := by
      intro q1 q2
      have := ro_all (oB := oB) (oL := oL) hB hL hn (a := g) (m := m) (b := nn - g) (P := P ++ A1) (A := A2) (B := B1) (T := B2 ++ T) (by simp; omega) (by omega) (by omega) (by simp; omega) q1 q2
      rw [show (P ++ A1) ++ (A2 ++ (B1 ++ (B2 ++ T))) = P ++ ((A1 ++ A2) ++ ((B1 ++ B2) ++ T)) from by simp, show (P ++ A1) ++ (B1 ++ (A2 ++ (B2 ++ T))) = P ++ (A1 ++ (B1 ++ (A2 ++ (B2 ++ T)))) from by simp] at this
      exact this
    have rot0 : (A2 = [] ∨ B1 = []) → P ++ (A1 ++ (B1 ++ (A2 ++ (B2 ++ T)))) = P ++ ((A1 ++ A2) ++ ((B1 ++ B2) ++ T)) := by
      rintro (h | h) <;> rw [h] <;> simp
    have left0 : (A1 = [] ∨ B1 = []) → P ++ (M1 ++ (A2 ++ (B2 ++ T))) = P ++ (A1 ++ (B1 ++ (A2 ++ (B2 ++ T)))) := fun h => by rw [e1 h]; simp
    have right0 : (A2 = [] ∨ B2 = []) → P ++ (M1 ++ (M2 ++ T)) = P ++ (M1 ++ (A2 ++ (B2 ++ T))) := fun h => by rw [e2 h]; simp
    refine ⟨M1 ++ M2, cross_perm p1 p2, srt_cross sA sB hah c1 c2 s1 p1 s2 p2, ?_⟩
    rw [show P ++ ((M1 ++ M2) ++ T) = P ++ (M1 ++ (M2 ++ T)) from by simp]
    simp only [List.length_append] at la lb hm hb la0 lb0
    exact sm_tail hB hL ⟨by omega, hn⟩ (by omega) (by omega) hmid.symm hnq.symm hp.symm ⟨g1, g2⟩ lA1 lA2 lB1 lB2 h4 rot rot0 cl left0 cr right0
end
end Go.Proofs.Ythooafgfpnedhaa.specsJudge
