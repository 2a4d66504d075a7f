/- The searches within the merging of two pieces. Conditions: those that each theorem names, and no others. -/
import Derived.Test.YthooafgfpnedhaaJud8
namespace Go.Proofs.Ythooafgfpnedhaa.specsJudge
open Go Go.Mini
/-! ### rotate -/
abbrev CM : AV := .func (.func 37) [] [.ptr 1 0]
theorem hcfM : CM.names (fun c => Nat.blt c 3) = true := rfl
section
variable {oB oL : AObj} (hB : oB.names (fun c => Nat.blt c 3) = true) (hL : oL.names (fun c => Nat.blt c 3) = true) {n a b m : Nat} (hn : n < 1000000)
include hB hL hn
theorem ro_loop {P T : List Nat} : ∀ (k : Nat) (dp X Y ds : List Nat), X.length + Y.length ≤ k → X ≠ [] → Y ≠ [] → m = P.length + dp.length + X.length → n = m + Y.length + ds.length + T.length →
    ∃ dp' X' Y' ds' : List Nat, X'.length = Y'.length ∧ dp' ++ (Y' ++ (X' ++ ds')) = dp ++ (Y ++ (X ++ ds)) ∧ m = P.length + dp'.length + X'.length ∧ n = m + Y'.length + ds'.length + T.length ∧
      SoundL Try.prog [2] (.loop (loopAt Try.prog 75 0)) (T75 n a m b CM X.length Y.length) (bsS (nc (P ++ (dp ++ (X ++ (Y ++ (ds ++ T)))))) oB oL) 3 3 (.exit 0) (T75 n a m b CM X'.length X'.length) (bsS (nc (P ++ (dp' ++ (X' ++ (Y' ++ (ds' ++ T)))))) oB oL) := by
  intro k
  induction k with
  | zero =>
    intro dp X Y ds h hx
    exact absurd (List.eq_nil_of_length_eq_zero (by omega)) hx
  | succ k ih =>
    intro dp X Y ds hk hx hy hm hnn
    have x0 : X.length ≠ 0 := fun h => hx (List.eq_nil_of_length_eq_zero h)
    have y0 : Y.length ≠ 0 := fun h => hy (List.eq_nil_of_length_eq_zero h)
    rcases Nat.lt_trichotomy X.length Y.length with hlt | heq | hgt
    · -- more behind
      have hY : Y = Y.take (Y.length - X.length) ++ Y.drop (Y.length - X.length) := (List.take_append_drop _ _).symm
      generalize hy1 : Y.take (Y.length - X.length) = Y1 at hY
      generalize hy2 : Y.drop (Y.length - X.length) = Y2 at hY
      have l1 : Y1.length = Y.length - X.length := by rw [← hy1]; simp
      have l2 : Y2.length = X.length := by rw [← hy2]; simp; omega
      obtain ⟨dp', X', Y', ds', r1, r2, r3, r4, r5⟩ := ih dp Y2 Y1 (X ++ ds) (by omega) (fun h => x0 (by rw [← l2, h]; rfl)) (fun h => by rw [h] at l1; simp at l1; omega) (by omega) (by simp; omega)
      refine ⟨dp', X', Y', ds', r1, by rw [r2, hY]; simp, r3, r4, ?_⟩
      have hc := sr_all hB hL hcfM hn (a := m - X.length) (b := m + Y.length - X.length) (m := X.length) (P := P ++ dp) (X := X) (M := Y1) (Y := Y2) (T := ds ++ T) (by simp; omega) l2.symm rfl (by simp; omega) (n := n) (by simp; omega)
      have e1 : (P ++ dp) ++ (X ++ (Y1 ++ (Y2 ++ (ds ++ T)))) = P ++ (dp ++ (X ++ (Y ++ (ds ++ T)))) := by rw [hY]; simp
      have e2 : (P ++ dp) ++ (Y2 ++ (Y1 ++ (X ++ (ds ++ T)))) = P ++ (dp ++ (Y2 ++ (Y1 ++ ((X ++ ds) ++ T)))) := by simp
      rw [e1, e2] at hc
      rw [l2, l1] at r5
      refine SoundL.next (SL hB hL (runX_sound mixed none_sound (ro_lt n a b m X.length Y.length 0 0 0 0 0 0 0 0 0 0 0 0 0 0 oB oL _ _ [] [] [] CM) ⟨neq _ _ _ (by simp; omega), gtq _ _ _ (by simp; omega), sub_q (by omega) rfl (by omega), wq _ rfl (by omega), sub_q (by omega) rfl (by omega), hc none none [], sub_q (by omega) rfl (by omega), trivial⟩) ?_ (nc_names _ _)) r5
      unfold T75
      repeat (first | exact rfl | refine ⟨_, _, rfl, ?_, ?_⟩ | exact .inr ⟨rfl, rfl⟩ | exact .inl ⟨rfl, rfl⟩)
    · refine ⟨dp, X, Y, ds, heq, rfl, hm, hnn, ?_⟩
      rw [← heq]
      refine SoundL.stop (SL hB hL (runX_sound mixed none_sound (ro_end n a b m X.length X.length 0 0 0 0 0 0 0 0 0 0 0 0 0 0 oB oL _ [] [] [] [] CM) ⟨neq _ _ _ (by simp), trivial⟩) ?_ (nc_names _ _)) (by simp)
      unfold T75
      repeat (first | exact rfl | refine ⟨_, _, rfl, ?_, ?_⟩ | exact .inr ⟨rfl, rfl⟩ | exact .inl ⟨rfl, rfl⟩)
    · have hX : X = X.take Y.length ++ X.drop Y.length := (List.take_append_drop _ _).symm
      generalize hx1 : X.take Y.length = X1 at hX
      generalize hx2 : X.drop Y.length = X2 at hX
      have l1 : X1.length = Y.length := by rw [← hx1]; simp; omega
      have l2 : X2.length = X.length - Y.length := by rw [← hx2]; simp
      obtain ⟨dp', X', Y', ds', r1, r2, r3, r4, r5⟩ := ih (dp ++ Y) X2 X1 ds (by omega) (fun h => by rw [h] at l2; simp at l2; omega) (fun h => y0 (by rw [← l1, h]; rfl)) (by simp; omega) (by omega)
      refine ⟨dp', X', Y', ds', r1, by rw [r2, hX]; simp, r3, r4, ?_⟩
      have hc := sr_all hB hL hcfM hn (a := m - X.length) (b := m) (m := Y.length) (P := P ++ dp) (X := X1) (M := X2) (Y := Y) (T := ds ++ T) (by simp; omega) l1 l1.symm (by simp; omega) (n := n) (by simp; omega)
      have e1 : (P ++ dp) ++ (X1 ++ (X2 ++ (Y ++ (ds ++ T)))) = P ++ (dp ++ (X ++ (Y ++ (ds ++ T)))) := by rw [hX]; simp
      have e2 : (P ++ dp) ++ (Y ++ (X2 ++ (X1 ++ (ds ++ T)))) = P ++ ((dp ++ Y) ++ (X2 ++ (X1 ++ (ds ++ T)))) := by simp
      rw [e1, e2] at hc
      rw [l2, l1] at r5
      refine SoundL.next (SL hB hL (runX_sound mixed none_sound (ro_gt n a b m X.length Y.length 0 0 0 0 0 0 0 0 0 0 0 0 0 0 oB oL _ _ [] [] [] CM) ⟨neq _ _ _ (by simp; omega), gtq _ _ _ (by simp; omega), sub_q (by omega) rfl (by omega), hc none none [], sub_q (by omega) rfl (by omega), trivial⟩) ?_ (nc_names _ _)) r5
      unfold T75
      repeat (first | exact rfl | refine ⟨_, _, rfl, ?_, ?_⟩ | exact .inr ⟨rfl, rfl⟩ | exact .inl ⟨rfl, rfl⟩)
theorem ro_all {P A B T : List Nat} (ha : a = P.length) (hm : m = a + A.length) (hb : b = m + B.length) (hnn : n = b + T.length) (hA : A ≠ []) (hBn : B ≠ []) :
    CallS 75 [.osl 2 0 n 1, .int .i64 (Int.ofNat a), .int .i64 (Int.ofNat m), .int .i64 (Int.ofNat b), CM] oB oL (P ++ (A ++ (B ++ T))) (P ++ (B ++ (A ++ T))) := by
  intro esc esc' W
  obtain ⟨dp, X, Y, ds, r1, r2, r3, r4, r5⟩ := ro_loop hB hL hn (a := a) (b := b) (m := m) (P := P) (T := T) (A.length + B.length) [] A B [] (Nat.le_refl _) hA hBn (by simp; omega) (by simp; omega)
  simp only [List.nil_append, List.append_nil] at r2
  have hc := sr_all hB hL hcfM hn (a := m - X.length) (b := m) (m := X.length) (P := P ++ dp) (X := X) (M := []) (Y := Y) (T := ds ++ T) (by simp; omega) r1 rfl (by simp; omega) (n := n) (by simp; omega)
  have e1 : (P ++ dp) ++ (X ++ ([] ++ (Y ++ (ds ++ T)))) = P ++ (dp ++ (X ++ (Y ++ (ds ++ T)))) := by simp
  have e2 : (P ++ dp) ++ (Y ++ ([] ++ (X ++ (ds ++ T)))) = P ++ (B ++ (A ++ T)) := by
    have : dp ++ (Y ++ (X ++ (ds ++ T))) = (dp ++ (Y ++ (X ++ ds))) ++ T := by simp
    rw [List.nil_append, List.append_assoc P, this, r2]
    simp
  rw [e1, e2] at hc
  have h := r5 none none []
  rw [show P ++ ([] ++ (A ++ (B ++ ([] ++ T)))) = P ++ (A ++ (B ++ T)) from by simp] at h
  refine CS hB hL (runX_sound mixed none_sound (ro_call n a b m 0 0 0 X.length 0 0 0 0 0 0 0 0 0 0 0 0 oB oL _ (nc (P ++ (dp ++ (X ++ (Y ++ (ds ++ T)))))) (nc (P ++ (B ++ (A ++ T)))) [] [] CM) ⟨sub_q (by omega) rfl (by omega), sub_q (by omega) rfl (by omega), Sound.enter h ?_, sub_q (by omega) rfl (by omega), hc none none [2], trivial⟩) (nc_names _ _) esc esc' W
  rw [show A.length = m - a from by omega, show B.length = b - m from by omega]
  unfold T75
  repeat (first | exact rfl | refine ⟨_, _, rfl, ?_, ?_⟩ | exact .inr ⟨rfl, rfl⟩ | exact .inl ⟨rfl, rfl⟩ | exact see_same _)
end
/-! ### what cmp says of two numbers, and insertion sort -/
def CmpS (k : Nat → Int) (N : Nat) (oB oL : AObj) : Prop := ∀ u v, u < N → v < N → ∃ c : Int, (c < 0 ↔ k u < k v) ∧ ∀ (D : List AV) (W : List Nat), Sound Try.prog (.call 37 [.int .i64 (Int.ofNat u), .int .i64 (Int.ofNat v), .ptr 1 0] ⟨⟨[(2, .cells false D), (1, oB), (0, oL)], 3, none, W⟩, 3⟩) ⟨.ret, [.int .i64 c], ⟨⟨[(2, .cells false D), (1, oB), (0, oL)], 3, none, W⟩, 3⟩⟩
theorem neg_q (c : Int) (r : Bool) (h : decide (c < 0) = r) : (Qst.val (some (AV.bool (decide (c < 0)))) (AV.bool r)).ok Try.prog := by
  simp only [Qst.ok]
  rw [← h]
section
variable {k : Nat → Int} {N : Nat} {oB oL : AObj} (hB : oB.names (fun c => Nat.blt c 3) = true) (hL : oL.names (fun c => Nat.blt c 3) = true) {n a b : Nat} (hn : n < 1000000) (hcmp : CmpS k N oB oL)
include hB hL hn hcmp
theorem is_in {P T : List Nat} {v i : Nat} (ha : a = P.length) (hv : v < N) : ∀ (len : Nat) (S1 S2 : List Nat), S1.length = len → Srt k (S1 ++ S2) → (∀ s ∈ S2, lx k v s) → Ahead (S1 ++ S2) [v] → (∀ s ∈ S1 ++ S2, s < N) → n = a + S1.length + 1 + S2.length + T.length →
    ∃ S' : List Nat, S'.Perm (S1 ++ v :: S2) ∧ Srt k S' ∧ SoundL Try.prog [2] (.loop (loopAt Try.prog 62 1)) (T62 n a b i (.int .i64 (Int.ofNat (a + S1.length)))) (bsS (nc (P ++ (S1 ++ v :: (S2 ++ T)))) oB oL) 3 3 (.exit 2) (T62 n a b i uu) (bsS (nc (P ++ (S' ++ T))) oB oL) := by
  intro len
  induction len with
  | zero =>
    intro S1 S2 h1 hs h2 h3 h4 hnn
    have : S1 = [] := List.eq_nil_of_length_eq_zero h1
    subst this
    refine ⟨v :: S2, List.Perm.refl _, srt_cons.2 ⟨h2, by simpa using hs⟩, ?_⟩
    refine SoundL.stop (SL hB hL (runX_sound mixed none_sound (is_e1 n a b 0 i (a + [].length) 0 0 0 0 0 0 0 0 0 0 0 0 0 0 oB oL _ [] [] [] [] .nilFunc) ⟨gtq _ _ _ (by simp), trivial⟩) ?_ (nc_names _ _)) (by simp)
    unfold T62
    repeat (first | exact rfl | refine ⟨_, _, rfl, ?_, ?_⟩ | exact .inr ⟨rfl, rfl⟩ | exact .inl ⟨rfl, rfl⟩)
  | succ len ih =>
    intro S1 S2 h1 hs h2 h3 h4 hnn
    obtain ⟨S0, u, rfl⟩ : ∃ S0 u, S1 = S0 ++ [u] := ⟨S1.dropLast, S1.getLast (by intro h; rw [h] at h1; simp at h1), (List.dropLast_concat_getLast _).symm⟩
    have l0 : S0.length = len := by simpa using h1
    have hu : u < N := h4 u (by simp)
    obtain ⟨c, hc, hcs⟩ := hcmp v u hv hu
    have hj : a + (S0 ++ [u]).length = a + S0.length + 1 := by simp; omega
    rw [hj]
    have ev : P ++ ((S0 ++ [u]) ++ v :: (S2 ++ T)) = (P ++ (S0 ++ [u])) ++ v :: (S2 ++ T) := by simp
    have eu : P ++ ((S0 ++ [u]) ++ v :: (S2 ++ T)) = (P ++ S0) ++ u :: (v :: (S2 ++ T)) := by simp
    have gv : (P ++ ((S0 ++ [u]) ++ v :: (S2 ++ T)))[a + S0.length + 1]? = some v := get_at ev (by simp; omega)
    have gu : (P ++ ((S0 ++ [u]) ++ v :: (S2 ++ T)))[a + S0.length + 1 - 1]? = some u := get_at eu (by simp; omega)
    have hlen : (P ++ ((S0 ++ [u]) ++ v :: (S2 ++ T))).length = n := by simp at hnn ⊢; omega
    simp only [List.length_append, List.length_cons, List.length_nil] at hnn
    by_cases hlt : k v < k u
    · have s1 : (P ++ ((S0 ++ [u]) ++ v :: (S2 ++ T))).set (a + S0.length + 1) u = (P ++ S0) ++ u :: (u :: (S2 ++ T)) := by
        rw [set_at ev (by simp; omega)]
        simp
      have s2 : ((P ++ ((S0 ++ [u]) ++ v :: (S2 ++ T))).set (a + S0.length + 1) u).set (a + S0.length + 1 - 1) v = P ++ (S0 ++ v :: ((u :: S2) ++ T)) := by
        rw [s1, set_at rfl (by simp; omega)]
        simp
      have hs' : Srt k (S0 ++ u :: S2) := by
        have : S0 ++ u :: S2 = (S0 ++ [u]) ++ S2 := by simp
        rw [this]
        exact hs
      obtain ⟨S', p1, p2, p3⟩ := ih S0 (u :: S2) l0 hs' (fun s hm => by
        rcases List.mem_cons.1 hm with rfl | hm
        · exact .inl hlt
        · exact h2 s hm) (fun x hx y hy => h3 x (by simpa using hx) y hy) (fun s hm => h4 s (by simpa using hm)) (by simp; omega)
      refine ⟨S', p1.trans ?_, p2, ?_⟩
      · have : (S0 ++ [u]) ++ v :: S2 = S0 ++ u :: (v :: S2) := by simp
        rw [this]
        exact List.Perm.append_left S0 (List.Perm.swap u v S2)
      · rw [← s2] at p3
        refine SoundL.next (SL hB hL (runX_sound mixed none_sound (is_go n a b 0 i (a + S0.length + 1) 0 0 0 0 0 0 0 u v 0 0 0 0 c oB oL _ _ _ [] [] .nilFunc) ⟨gtq _ _ _ (by simp; omega), idx_q (by omega), ld_q gv, sub_q (by omega) rfl (by omega), idx_q (by omega), ld_q gu, hcs _ _, neg_q _ _ (by simpa using hc.2 hlt), sub_q (by omega) rfl (by omega), sub_q (by omega) rfl (by omega), idx_q (by omega), ld_q gu, idx_q (by omega), ld_q gv, idx_q (by omega), sto_q (by omega), idx_q (by omega), sto_q (by rw [List.length_set]; omega), sub_q (by omega) rfl (by omega), trivial⟩) ?_ (nc_names _ _)) p3
        unfold T62
        repeat (first | exact rfl | refine ⟨_, _, rfl, ?_, ?_⟩ | exact .inr ⟨rfl, rfl⟩ | exact .inl ⟨rfl, rfl⟩)
    · have huv : u < v := h3 u (by simp) v (by simp)
      have hs2 : Srt k ((S0 ++ [u]) ++ v :: S2) := srt_right hs (fun z hz => Int.le_trans (srt_last (srt_app.1 hs).1 hz) (by omega)) (fun z hz => by
        have h5 := h2 z hz
        have h6 := h3 z (by simp [hz]) v (by simp)
        unfold lx at h5
        omega) h3
      refine ⟨(S0 ++ [u]) ++ v :: S2, List.Perm.refl _, hs2, ?_⟩
      have e9 : P ++ (((S0 ++ [u]) ++ v :: S2) ++ T) = P ++ ((S0 ++ [u]) ++ v :: (S2 ++ T)) := by simp
      rw [e9]
      refine SoundL.stop (SL hB hL (runX_sound mixed none_sound (is_e2 n a b 0 i (a + S0.length + 1) 0 0 0 0 0 0 0 u v 0 0 0 0 c oB oL _ [] [] [] [] .nilFunc) ⟨gtq _ _ _ (by simp; omega), idx_q (by omega), ld_q gv, sub_q (by omega) rfl (by omega), idx_q (by omega), ld_q gu, hcs _ _, neg_q _ _ (by have := mt hc.1 hlt; simpa using this), trivial⟩) ?_ (nc_names _ _)) (by simp)
      unfold T62
      repeat (first | exact rfl | refine ⟨_, _, rfl, ?_, ?_⟩ | exact .inr ⟨rfl, rfl⟩ | exact .inl ⟨rfl, rfl⟩)
theorem is_outer {P T : List Nat} (ha : a = P.length) : ∀ (R S : List Nat), Srt k S → Ahead S R → R.Pairwise (· < ·) → (∀ s ∈ S ++ R, s < N) → S ≠ [] → b = a + S.length + R.length → n = b + T.length →
    ∃ S' : List Nat, S'.Perm (S ++ R) ∧ Srt k S' ∧ SoundL Try.prog [2] (.loop (loopAt Try.prog 62 0)) (T62 n a b (a + S.length) uu) (bsS (nc (P ++ (S ++ (R ++ T)))) oB oL) 3 3 (.exit 0) (T62 n a b b uu) (bsS (nc (P ++ (S' ++ T))) oB oL) := by
  intro R
  induction R with
  | nil =>
    intro S h1 h2 h3 h4 h5 hb hnn
    refine ⟨S, by simp, h1, ?_⟩
    have : a + S.length = b := by simp at hb; omega
    rw [this]
    refine SoundL.stop (SL hB hL (runX_sound mixed none_sound (is_end n a b 0 b 0 0 0 0 0 0 0 0 0 0 0 0 0 0 0 oB oL _ [] [] [] [] .nilFunc) ⟨ltq _ _ _ (by simp), trivial⟩) ?_ (nc_names _ _)) (by simp)
    unfold T62
    repeat (first | exact rfl | refine ⟨_, _, rfl, ?_, ?_⟩ | exact .inr ⟨rfl, rfl⟩ | exact .inl ⟨rfl, rfl⟩)
  | cons v R ih =>
    intro S h1 h2 h3 h4 h5 hb hnn
    simp only [List.length_cons] at hb
    have hR := List.pairwise_cons.1 h3
    obtain ⟨S1, p1, p2, p3⟩ := is_in hB hL hn hcmp (b := b) (i := a + S.length) (T := R ++ T) ha (h4 v (by simp)) S.length S [] rfl (by simpa using h1) (fun s hm => by cases hm) (fun x hx y hy => by
      simp only [List.mem_singleton] at hy
      subst hy
      exact h2 x (by simpa using hx) y (by simp)) (fun s hm => h4 s (by simp at hm; simp [hm])) (by simp; omega)
    have l1 : S1.length = S.length + 1 := by rw [p1.length_eq]; simp
    have hmem : ∀ x ∈ S1, x ∈ S ∨ x = v := fun x hx => by
      have := p1.mem_iff.1 hx
      simpa using this
    obtain ⟨S', q1, q2, q3⟩ := ih S1 p2 (fun x hx y hy => by
      rcases hmem x hx with h | rfl
      · exact h2 x h y (by simp [hy])
      · exact hR.1 y hy) hR.2 (fun s hm => by
        rcases List.mem_append.1 hm with h | h
        · rcases hmem s h with h | rfl
          · exact h4 s (by simp [h])
          · exact h4 s (by simp)
        · exact h4 s (by simp [h])) (fun h => by rw [h] at l1; simp at l1) (by omega) hnn
    refine ⟨S', q1.trans ((List.Perm.append_right R p1).trans (by simp)), q2, ?_⟩
    rw [show a + S1.length = a + S.length + 1 from by omega] at q3
    refine SoundL.next (SL hB hL (runX_sound mixed none_sound (is_out n a b 0 (a + S.length) 0 0 0 0 0 0 0 0 0 0 0 0 0 0 0 oB oL _ _ [] [] [] .nilFunc) ⟨ltq _ _ _ (by simp; omega), Sound.enter (p3 none none []) ?_, wq _ rfl (by omega), trivial⟩) ?_ (nc_names _ _)) q3
    · unfold T62
      repeat (first | exact rfl | refine ⟨_, _, rfl, ?_, ?_⟩ | exact .inr ⟨rfl, rfl⟩ | exact .inl ⟨rfl, rfl⟩ | exact see_same _)
    · unfold T62
      repeat (first | exact rfl | refine ⟨_, _, rfl, ?_, ?_⟩ | exact .inr ⟨rfl, rfl⟩ | exact .inl ⟨rfl, rfl⟩)
theorem is_all {P B T : List Nat} (ha : a = P.length) (hb : b = a + B.length) (hnn : n = b + T.length) (hs : B.Pairwise (· < ·)) (hN : ∀ s ∈ B, s < N) :
    ∃ B' : List Nat, B'.Perm B ∧ Srt k B' ∧ CallS 62 [.osl 2 0 n 1, .int .i64 (Int.ofNat a), .int .i64 (Int.ofNat b), CM] oB oL (P ++ (B ++ T)) (P ++ (B' ++ T)) := by
  cases B with
  | nil =>
    refine ⟨[], List.Perm.refl _, srt_nil, fun esc esc' W => ?_⟩
    simp only [List.length_nil, Nat.add_zero] at hb
    have h : SoundL Try.prog [2] (.loop (loopAt Try.prog 62 0)) (T62 n a b (a + 1) uu) (bsS (nc (P ++ ([] ++ T))) oB oL) 3 3 (.exit 0) (T62 n a b (a + 1) uu) (bsS (nc (P ++ ([] ++ T))) oB oL) := by
      refine SoundL.stop (SL hB hL (runX_sound mixed none_sound (is_end n a b 0 (a + 1) 0 0 0 0 0 0 0 0 0 0 0 0 0 0 0 oB oL _ [] [] [] [] .nilFunc) ⟨ltq _ _ _ (by simp; omega), trivial⟩) ?_ (nc_names _ _)) (by simp)
      unfold T62
      repeat (first | exact rfl | refine ⟨_, _, rfl, ?_, ?_⟩ | exact .inr ⟨rfl, rfl⟩ | exact .inl ⟨rfl, rfl⟩)
    refine CS hB hL (runX_sound mixed none_sound (is_call n a b 0 0 0 0 (a + 1) 0 0 0 0 0 0 0 0 0 0 0 0 oB oL _ _ [] [] [] .nilFunc) ⟨wq _ rfl (by omega), Sound.enter (h none none []) ?_, trivial⟩) (nc_names _ _) esc esc' W
    unfold T62
    repeat (first | exact rfl | refine ⟨_, _, rfl, ?_, ?_⟩ | exact .inr ⟨rfl, rfl⟩ | exact .inl ⟨rfl, rfl⟩ | exact see_same _)
  | cons v R =>
    have hR := List.pairwise_cons.1 hs
    simp only [List.length_cons] at hb
    obtain ⟨S', p1, p2, p3⟩ := is_outer hB hL hn hcmp (b := b) (T := T) ha R [v] (srt_one v) (fun x hx y hy => by
      simp only [List.mem_singleton] at hx
      subst hx
      exact hR.1 y hy) hR.2 (fun s hm => hN s (by simpa using hm)) (by simp) (by simp; omega) hnn
    refine ⟨S', p1, p2, fun esc esc' W => ?_⟩
    refine CS hB hL (runX_sound mixed none_sound (is_call n a b 0 0 0 0 b 0 0 0 0 0 0 0 0 0 0 0 0 oB oL _ _ [] [] [] .nilFunc) ⟨wq _ rfl (by omega), Sound.enter (p3 none none []) ?_, trivial⟩) (nc_names _ _) esc esc' W
    unfold T62
    repeat (first | exact rfl | refine ⟨_, _, rfl, ?_, ?_⟩ | exact .inr ⟨rfl, rfl⟩ | exact .inl ⟨rfl, rfl⟩ | exact see_same _)
end
end Go.Proofs.Ythooafgfpnedhaa.specsJudge
