/- The rotation of two pieces. Conditions: those that each theorem names, and no others. -/
import Derived.Test.YthooafgfpnedhaaJud9
import Derived.Test.YthooafgfpnedhaaJud6
import Derived.Test.YthooafgfpnedhaaJud7
namespace Go.Proofs.Ythooafgfpnedhaa.specsJudge
open Go Go.Mini
theorem conv_q {s : Nat} (h : s < 9223372036854775808) : (Qst.val (some (AV.int .u64 (Int.ofNat (s % ((2 : Int) ^ IntKind.u64.bits).natAbs)))) (AV.int .u64 (Int.ofNat s))).ok Try.prog := by
  simp only [Qst.ok]
  have : ((2 : Int) ^ IntKind.u64.bits).natAbs = 18446744073709551616 := by decide
  rw [this, Nat.mod_eq_of_lt (by omega)]
theorem shr_q {s h : Nat} (hh : h = s / 2) : (Qst.val (some (AV.int .u64 ((Int.ofNat s).fdiv (Int.ofNat 2)))) (AV.int .u64 (Int.ofNat h))).ok Try.prog := by
  simp only [Qst.ok]
  subst hh
  rw [Int.fdiv_eq_ediv_of_nonneg _ (by decide)]
  rfl
/-- One or the other; a name of its own, for the sake of 'omega'. -/
def Edge (c e : Prop) : Prop := c ∨ e
theorem Edge.l {c e : Prop} (h : c) : Edge c e := Or.inl h
theorem Edge.r {c e : Prop} (h : e) : Edge c e := Or.inr h
theorem get_lt {D : List Nat} {h : Nat} (hh : h < D.length) : D[h]? = some D[h] := List.getElem?_eq_getElem hh
theorem take_last {k : Nat → Int} {B : List Nat} {c y : Nat} {t : Int} (hs : Srt k B) (hc : 0 < c) (hy : B[c - 1]? = some y) (ht : k y < t) : ∀ z ∈ B.take c, k z < t := by
  have hlt : c - 1 < B.length := (List.getElem?_eq_some_iff.1 hy).1
  have hye : B[c - 1] = y := (List.getElem?_eq_some_iff.1 hy).2
  have e : B.take c = B.take (c - 1) ++ [y] := by
    have : c = c - 1 + 1 := by omega
    rw [this, List.take_succ_eq_append_getElem hlt, hye]
    simp
  have hs2 : Srt k (B.take c) := List.Pairwise.sublist (List.take_sublist c B) hs
  intro z hz
  rw [e] at hs2 hz
  have := srt_last hs2 hz
  omega
theorem take_last_le {k : Nat → Int} {B : List Nat} {c y : Nat} {t : Int} (hs : Srt k B) (hc : 0 < c) (hy : B[c - 1]? = some y) (ht : k y ≤ t) : ∀ z ∈ B.take c, k z ≤ t := by
  intro z hz
  have := take_last (t := t + 1) hs hc hy (by omega) z hz
  omega
theorem drop_first {k : Nat → Int} {B : List Nat} {c y : Nat} {t : Int} (hs : Srt k B) (hy : B[c]? = some y) (ht : t ≤ k y) : ∀ z ∈ B.drop c, t ≤ k z := by
  have hlt : c < B.length := (List.getElem?_eq_some_iff.1 hy).1
  have hye : B[c] = y := (List.getElem?_eq_some_iff.1 hy).2
  have e : B.drop c = y :: B.drop (c + 1) := by rw [List.drop_eq_getElem_cons hlt, hye]
  have hs2 : Srt k (B.drop c) := List.Pairwise.sublist (List.drop_sublist c B) hs
  intro z hz
  rw [e] at hs2 hz
  have := srt_first hs2 hz
  omega
theorem drop_first_lt {k : Nat → Int} {B : List Nat} {c y : Nat} {t : Int} (hs : Srt k B) (hy : B[c]? = some y) (ht : t < k y) : ∀ z ∈ B.drop c, t < k z := by
  intro z hz
  have := drop_first (t := t + 1) hs hy (by omega) z hz
  omega
section
variable {k : Nat → Int} {N : Nat} {oB oL : AObj} (hB : oB.names (fun c => Nat.blt c 3) = true) (hL : oL.names (fun c => Nat.blt c 3) = true) {n a m b : Nat} (hn : n < 1000000) (hcmp : CmpS k N oB oL)
include hn hcmp
/-! ### the searches -/
theorem m0_loop {D : List Nat} {x : Nat} (hx : D[a]? = some x) (hD : D.length = n) (hN : ∀ s ∈ D, s < N) (hbn : b ≤ n) : ∀ (d i j : Nat), j - i ≤ d → i ≤ j → m ≤ i → j ≤ b →
    Edge (i = m) (∃ y, D[i - 1]? = some y ∧ k y < k x) → Edge (j = b) (∃ y, D[j]? = some y ∧ k x ≤ k y) →
    ∃ p, m ≤ p ∧ p ≤ b ∧ Edge (p = m) (∃ y, D[p - 1]? = some y ∧ k y < k x) ∧ Edge (p = b) (∃ y, D[p]? = some y ∧ k x ≤ k y) ∧
      SoundL Try.prog [] (.loop (loopAt Try.prog 63 0)) (T63 n a m b (.int .i64 (Int.ofNat i)) (.int .i64 (Int.ofNat j)) uu uu uu uu uu uu uu uu uu) (bsS (nc D) oB oL) 3 3 (.exit 0) (T63 n a m b (.int .i64 (Int.ofNat p)) (.int .i64 (Int.ofNat p)) uu uu uu uu uu uu uu uu uu) (bsS (nc D) oB oL) := by
  have ha : a < n := by
    have := (List.getElem?_eq_some_iff.1 hx).1
    omega
  have hxN : x < N := hN x (List.mem_of_getElem? hx)
  have fin : ∀ i, i ≤ b → SoundL Try.prog [] (.loop (loopAt Try.prog 63 0)) (T63 n a m b (.int .i64 (Int.ofNat i)) (.int .i64 (Int.ofNat i)) uu uu uu uu uu uu uu uu uu) (bsS (nc D) oB oL) 3 3 (.exit 0) (T63 n a m b (.int .i64 (Int.ofNat i)) (.int .i64 (Int.ofNat i)) uu uu uu uu uu uu uu uu uu) (bsS (nc D) oB oL) := by
    intro i hi
    refine SoundL.stop (SoundL.plain (runX_sound mixed none_sound (m0_end n a b m i i 0 0 0 0 0 0 0 0 0 0 0 0 0 0 oB oL _ [] [] [] [] .nilFunc) ⟨ltq _ _ _ (by simp), trivial⟩) ?_) (by simp)
    unfold T63
    repeat (first | exact rfl | refine ⟨_, _, rfl, ?_, ?_⟩ | exact .inr ⟨rfl, rfl⟩ | exact .inl ⟨rfl, rfl⟩)
  intro d
  induction d with
  | zero =>
    intro i j hd hij hmi hjb lo hi
    have : i = j := by omega
    subst this
    exact ⟨i, hmi, hjb, lo, hi, fin i hjb⟩
  | succ d ih =>
    intro i j hd hij hmi hjb lo hi
    by_cases he : i = j
    · subst he
      exact ⟨i, hmi, hjb, lo, hi, fin i hjb⟩
    · have hh : (i + j) / 2 < D.length := by omega
      have gh := get_lt hh
      obtain ⟨c, hc, hcs⟩ := hcmp D[(i + j) / 2] x (hN _ (List.getElem_mem _)) hxN
      by_cases hlt : k D[(i + j) / 2] < k x
      · obtain ⟨p, p1, p2, p3, p4, p5⟩ := ih ((i + j) / 2 + 1) j (by omega) (by omega) (by omega) hjb (.r ⟨_, gh, hlt⟩) hi
        refine ⟨p, p1, p2, p3, p4, SoundL.next (SoundL.plain (runX_sound mixed none_sound (m0_lt n a b m i j ((i + j) / 2) 0 0 0 0 0 0 0 0 0 x _ 0 c oB oL _ [] [] [] [] .nilFunc) ⟨ltq _ _ _ (by simp; omega), wq _ rfl (by omega), conv_q (by omega), shr_q rfl, wq _ rfl (by omega), idx_q (by omega), ld_q gh, idx_q (by omega), ld_q hx, hcs _ _, neg_q _ _ (by simpa using hc.2 hlt), wq _ rfl (by omega), trivial⟩) ?_) p5⟩
        unfold T63
        repeat (first | exact rfl | refine ⟨_, _, rfl, ?_, ?_⟩ | exact .inr ⟨rfl, rfl⟩ | exact .inl ⟨rfl, rfl⟩)
      · obtain ⟨p, p1, p2, p3, p4, p5⟩ := ih i ((i + j) / 2) (by omega) (by omega) hmi (by omega) lo (.r ⟨_, gh, by omega⟩)
        refine ⟨p, p1, p2, p3, p4, SoundL.next (SoundL.plain (runX_sound mixed none_sound (m0_ge n a b m i j ((i + j) / 2) 0 0 0 0 0 0 0 0 0 x _ 0 c oB oL _ [] [] [] [] .nilFunc) ⟨ltq _ _ _ (by simp; omega), wq _ rfl (by omega), conv_q (by omega), shr_q rfl, wq _ rfl (by omega), idx_q (by omega), ld_q gh, idx_q (by omega), ld_q hx, hcs _ _, neg_q _ _ (by have := mt hc.1 hlt; simpa using this), trivial⟩) ?_) p5⟩
        unfold T63
        repeat (first | exact rfl | refine ⟨_, _, rfl, ?_, ?_⟩ | exact .inr ⟨rfl, rfl⟩ | exact .inl ⟨rfl, rfl⟩)
theorem m2_loop {D : List Nat} {y : Nat} (hy : D[m]? = some y) (hD : D.length = n) (hN : ∀ s ∈ D, s < N) : ∀ (d i j : Nat), j - i ≤ d → i ≤ j → a ≤ i → j ≤ m →
    Edge (i = a) (∃ z, D[i - 1]? = some z ∧ k z ≤ k y) → Edge (j = m) (∃ z, D[j]? = some z ∧ k y < k z) →
    ∃ p, a ≤ p ∧ p ≤ m ∧ Edge (p = a) (∃ z, D[p - 1]? = some z ∧ k z ≤ k y) ∧ Edge (p = m) (∃ z, D[p]? = some z ∧ k y < k z) ∧
      SoundL Try.prog [] (.loop (loopAt Try.prog 63 2)) (T63 n a m b uu uu uu (.int .i64 (Int.ofNat i)) (.int .i64 (Int.ofNat j)) uu uu uu uu uu uu) (bsS (nc D) oB oL) 3 3 (.exit 4) (T63 n a m b uu uu uu (.int .i64 (Int.ofNat p)) (.int .i64 (Int.ofNat p)) uu uu uu uu uu uu) (bsS (nc D) oB oL) := by
  have hm : m < n := by
    have := (List.getElem?_eq_some_iff.1 hy).1
    omega
  have hyN : y < N := hN y (List.mem_of_getElem? hy)
  have fin : ∀ i, SoundL Try.prog [] (.loop (loopAt Try.prog 63 2)) (T63 n a m b uu uu uu (.int .i64 (Int.ofNat i)) (.int .i64 (Int.ofNat i)) uu uu uu uu uu uu) (bsS (nc D) oB oL) 3 3 (.exit 4) (T63 n a m b uu uu uu (.int .i64 (Int.ofNat i)) (.int .i64 (Int.ofNat i)) uu uu uu uu uu uu) (bsS (nc D) oB oL) := by
    intro i
    refine SoundL.stop (SoundL.plain (runX_sound mixed none_sound (m2_end n a b m i i 0 0 0 0 0 0 0 0 0 0 0 0 0 0 oB oL _ [] [] [] [] .nilFunc) ⟨ltq _ _ _ (by simp), trivial⟩) ?_) (by simp)
    unfold T63
    repeat (first | exact rfl | refine ⟨_, _, rfl, ?_, ?_⟩ | exact .inr ⟨rfl, rfl⟩ | exact .inl ⟨rfl, rfl⟩)
  intro d
  induction d with
  | zero =>
    intro i j hd hij hai hjm lo hi
    have : i = j := by omega
    subst this
    exact ⟨i, hai, hjm, lo, hi, fin i⟩
  | succ d ih =>
    intro i j hd hij hai hjm lo hi
    by_cases he : i = j
    · subst he
      exact ⟨i, hai, hjm, lo, hi, fin i⟩
    · have hh : (i + j) / 2 < D.length := by omega
      have gh := get_lt hh
      obtain ⟨c, hc, hcs⟩ := hcmp y D[(i + j) / 2] hyN (hN _ (List.getElem_mem _))
      by_cases hlt : k y < k D[(i + j) / 2]
      · obtain ⟨p, p1, p2, p3, p4, p5⟩ := ih i ((i + j) / 2) (by omega) (by omega) hai (by omega) lo (.r ⟨_, gh, hlt⟩)
        refine ⟨p, p1, p2, p3, p4, SoundL.next (SoundL.plain (runX_sound mixed none_sound (m2_lt n a b m i j ((i + j) / 2) 0 0 0 0 0 0 0 0 0 _ y 0 c oB oL _ [] [] [] [] .nilFunc) ⟨ltq _ _ _ (by simp; omega), wq _ rfl (by omega), conv_q (by omega), shr_q rfl, wq _ rfl (by omega), idx_q (by omega), ld_q hy, idx_q (by omega), ld_q gh, hcs _ _, neg_q _ _ (by simpa using hc.2 hlt), trivial⟩) ?_) p5⟩
        unfold T63
        repeat (first | exact rfl | refine ⟨_, _, rfl, ?_, ?_⟩ | exact .inr ⟨rfl, rfl⟩ | exact .inl ⟨rfl, rfl⟩)
      · obtain ⟨p, p1, p2, p3, p4, p5⟩ := ih ((i + j) / 2 + 1) j (by omega) (by omega) (by omega) hjm (.r ⟨_, gh, by omega⟩) hi
        refine ⟨p, p1, p2, p3, p4, SoundL.next (SoundL.plain (runX_sound mixed none_sound (m2_ge n a b m i j ((i + j) / 2) 0 0 0 0 0 0 0 0 0 _ y 0 c oB oL _ [] [] [] [] .nilFunc) ⟨ltq _ _ _ (by simp; omega), wq _ rfl (by omega), conv_q (by omega), shr_q rfl, wq _ rfl (by omega), idx_q (by omega), ld_q hy, idx_q (by omega), ld_q gh, hcs _ _, neg_q _ _ (by have := mt hc.1 hlt; simpa using this), wq _ rfl (by omega), trivial⟩) ?_) p5⟩
        unfold T63
        repeat (first | exact rfl | refine ⟨_, _, rfl, ?_, ?_⟩ | exact .inr ⟨rfl, rfl⟩ | exact .inl ⟨rfl, rfl⟩)
theorem m4_loop {D : List Nat} {mid nn p s0 r0 : Nat} (hD : D.length = n) (hN : ∀ s ∈ D, s < N) (hr : ∀ c, s0 ≤ c → c < r0 → c ≤ p ∧ p - c < n ∧ c < n) (hr0 : r0 ≤ n) : ∀ (d s r : Nat), r - s ≤ d → s ≤ r → s0 ≤ s → r ≤ r0 →
    Edge (s = s0) (∃ y x, D[p - (s - 1)]? = some y ∧ D[s - 1]? = some x ∧ k x ≤ k y) → Edge (r = r0) (∃ y x, D[p - r]? = some y ∧ D[r]? = some x ∧ k y < k x) →
    ∃ g, s0 ≤ g ∧ g ≤ r0 ∧ Edge (g = s0) (∃ y x, D[p - (g - 1)]? = some y ∧ D[g - 1]? = some x ∧ k x ≤ k y) ∧ Edge (g = r0) (∃ y x, D[p - g]? = some y ∧ D[g]? = some x ∧ k y < k x) ∧
      SoundL Try.prog [] (.loop (loopAt Try.prog 63 4)) (T63 n a m b uu uu uu uu uu uu (.int .i64 (Int.ofNat mid)) (.int .i64 (Int.ofNat nn)) (.int .i64 (Int.ofNat s)) (.int .i64 (Int.ofNat r)) (.int .i64 (Int.ofNat p))) (bsS (nc D) oB oL) 3 3 (.exit 8) (T63 n a m b uu uu uu uu uu uu (.int .i64 (Int.ofNat mid)) (.int .i64 (Int.ofNat nn)) (.int .i64 (Int.ofNat g)) (.int .i64 (Int.ofNat g)) (.int .i64 (Int.ofNat p))) (bsS (nc D) oB oL) := by
  have fin : ∀ s, SoundL Try.prog [] (.loop (loopAt Try.prog 63 4)) (T63 n a m b uu uu uu uu uu uu (.int .i64 (Int.ofNat mid)) (.int .i64 (Int.ofNat nn)) (.int .i64 (Int.ofNat s)) (.int .i64 (Int.ofNat s)) (.int .i64 (Int.ofNat p))) (bsS (nc D) oB oL) 3 3 (.exit 8) (T63 n a m b uu uu uu uu uu uu (.int .i64 (Int.ofNat mid)) (.int .i64 (Int.ofNat nn)) (.int .i64 (Int.ofNat s)) (.int .i64 (Int.ofNat s)) (.int .i64 (Int.ofNat p))) (bsS (nc D) oB oL) := by
    intro s
    refine SoundL.stop (SoundL.plain (runX_sound mixed none_sound (m4_end n a b m 0 0 0 0 p nn mid s s 0 0 0 0 0 0 0 oB oL _ [] [] [] [] .nilFunc) ⟨ltq _ _ _ (by simp), trivial⟩) ?_) (by simp)
    unfold T63
    repeat (first | exact rfl | refine ⟨_, _, rfl, ?_, ?_⟩ | exact .inr ⟨rfl, rfl⟩ | exact .inl ⟨rfl, rfl⟩)
  intro d
  induction d with
  | zero =>
    intro s r hd hij h1 h2 lo hi
    have : s = r := by omega
    subst this
    exact ⟨s, h1, h2, lo, hi, fin s⟩
  | succ d ih =>
    intro s r hd hij h1 h2 lo hi
    by_cases he : s = r
    · subst he
      exact ⟨s, h1, h2, lo, hi, fin s⟩
    · obtain ⟨b1, b2, b3⟩ := hr ((s + r) / 2) (by omega) (by omega)
      have gx := get_lt (show (s + r) / 2 < D.length by omega)
      have gy := get_lt (show p - (s + r) / 2 < D.length by omega)
      have hp : p < 2000000 := by omega
      obtain ⟨c, hc, hcs⟩ := hcmp D[p - (s + r) / 2] D[(s + r) / 2] (hN _ (List.getElem_mem _)) (hN _ (List.getElem_mem _))
      by_cases hlt : k D[p - (s + r) / 2] < k D[(s + r) / 2]
      · obtain ⟨g, p1, p2, p3, p4, p5⟩ := ih s ((s + r) / 2) (by omega) (by omega) h1 (by omega) lo (.r ⟨_, _, gy, gx, hlt⟩)
        refine ⟨g, p1, p2, p3, p4, SoundL.next (SoundL.plain (runX_sound mixed none_sound (m4_lt n a b m 0 0 ((s + r) / 2) 0 p nn mid s r 0 0 0 _ _ 0 c oB oL _ [] [] [] [] .nilFunc) ⟨ltq _ _ _ (by simp; omega), wq _ rfl (by omega), conv_q (by omega), shr_q rfl, wq _ rfl (by omega), sub_q b1 rfl (by omega), idx_q (by omega), ld_q gy, idx_q (by omega), ld_q gx, hcs _ _, neg_q _ _ (by simpa using hc.2 hlt), trivial⟩) ?_) p5⟩
        unfold T63
        repeat (first | exact rfl | refine ⟨_, _, rfl, ?_, ?_⟩ | exact .inr ⟨rfl, rfl⟩ | exact .inl ⟨rfl, rfl⟩)
      · obtain ⟨g, p1, p2, p3, p4, p5⟩ := ih ((s + r) / 2 + 1) r (by omega) (by omega) (by omega) h2 (.r ⟨D[p - (s + r) / 2], D[(s + r) / 2], by rw [Nat.add_sub_cancel]; exact gy, by rw [Nat.add_sub_cancel]; exact gx, by omega⟩) hi
        refine ⟨g, p1, p2, p3, p4, SoundL.next (SoundL.plain (runX_sound mixed none_sound (m4_ge n a b m 0 0 ((s + r) / 2) 0 p nn mid s r 0 0 0 _ _ 0 c oB oL _ [] [] [] [] .nilFunc) ⟨ltq _ _ _ (by simp; omega), wq _ rfl (by omega), conv_q (by omega), shr_q rfl, wq _ rfl (by omega), sub_q b1 rfl (by omega), idx_q (by omega), ld_q gy, idx_q (by omega), ld_q gx, hcs _ _, neg_q _ _ (by have := mt hc.1 hlt; simpa using this), wq _ rfl (by omega), trivial⟩) ?_) p5⟩
        unfold T63
        repeat (first | exact rfl | refine ⟨_, _, rfl, ?_, ?_⟩ | exact .inr ⟨rfl, rfl⟩ | exact .inl ⟨rfl, rfl⟩)
omit hcmp
include hB hL
/-! ### one number, moved -/
theorem m1_loop {P T : List Nat} {x i : Nat} (ha : a = P.length) : ∀ (C2 C1 : List Nat), i = a + 1 + C1.length + C2.length → n = a + 1 + C1.length + C2.length + T.length →
    SoundL Try.prog [2] (.loop (loopAt Try.prog 63 1)) (T63 n a m b (.int .i64 (Int.ofNat i)) uu (.int .i64 (Int.ofNat (a + C1.length))) uu uu uu uu uu uu uu uu) (bsS (nc (P ++ (C1 ++ x :: (C2 ++ T)))) oB oL) 3 3 (.exit 2) (T63 n a m b (.int .i64 (Int.ofNat i)) uu (.int .i64 (Int.ofNat (i - 1))) uu uu uu uu uu uu uu uu) (bsS (nc (P ++ (C1 ++ (C2 ++ x :: T)))) oB oL) := by
  intro C2
  induction C2 with
  | nil =>
    intro C1 hi hnn
    simp only [List.length_nil] at hi
    rw [show a + C1.length = i - 1 from by omega]
    refine SoundL.stop (SL hB hL (runX_sound mixed none_sound (m1_end n a b m i 0 0 (i - 1) 0 0 0 0 0 0 0 0 0 0 0 0 oB oL _ [] [] [] [] .nilFunc) ⟨sub_q (by omega) rfl (by omega), ltq _ _ _ (by simp), trivial⟩) ?_ (nc_names _ _)) (by simp)
    unfold T63
    repeat (first | exact rfl | refine ⟨_, _, rfl, ?_, ?_⟩ | exact .inr ⟨rfl, rfl⟩ | exact .inl ⟨rfl, rfl⟩)
  | cons y C2 ih =>
    intro C1 hi hnn
    simp only [List.length_cons] at hi hnn
    have ex : P ++ (C1 ++ x :: (y :: C2 ++ T)) = (P ++ C1) ++ x :: (y :: C2 ++ T) := by simp
    have ey : P ++ (C1 ++ x :: (y :: C2 ++ T)) = (P ++ (C1 ++ [x])) ++ y :: (C2 ++ T) := by simp
    have s1 : (P ++ (C1 ++ x :: (y :: C2 ++ T))).set (a + C1.length) y = (P ++ (C1 ++ [y])) ++ y :: (C2 ++ T) := by
      rw [set_at ex (by simp; omega)]
      simp
    have s2 : ((P ++ (C1 ++ x :: (y :: C2 ++ T))).set (a + C1.length) y).set (a + C1.length + 1) x = P ++ ((C1 ++ [y]) ++ x :: (C2 ++ T)) := by
      rw [s1, set_at rfl (by simp; omega)]
      simp
    have hlen : (P ++ (C1 ++ x :: (y :: C2 ++ T))).length = n := by simp; omega
    have ih := ih (C1 ++ [y]) (by simp; omega) (by simp; omega)
    rw [← s2, show P ++ ((C1 ++ [y]) ++ (C2 ++ x :: T)) = P ++ (C1 ++ (y :: C2 ++ x :: T)) from by simp, show a + (C1 ++ [y]).length = a + C1.length + 1 from by simp; omega] at ih
    refine SoundL.next (SL hB hL (runX_sound mixed none_sound (m1_go n a b m i 0 0 (a + C1.length) 0 0 0 0 0 0 0 0 x y 0 0 oB oL _ _ _ [] [] .nilFunc) ⟨sub_q (by omega) rfl (by omega), ltq _ _ _ (by simp; omega), wq _ rfl (by omega), wq _ rfl (by omega), idx_q (by omega), ld_q (get_at ey (by simp; omega)), idx_q (by omega), ld_q (get_at ex (by simp; omega)), idx_q (by omega), sto_q (by omega), idx_q (by omega), sto_q (by rw [List.length_set]; omega), wq _ rfl (by omega), trivial⟩) ?_ (nc_names _ _)) ih
    unfold T63
    repeat (first | exact rfl | refine ⟨_, _, rfl, ?_, ?_⟩ | exact .inr ⟨rfl, rfl⟩ | exact .inl ⟨rfl, rfl⟩)
theorem m3_loop {P T : List Nat} {y i : Nat} (hi : i = P.length) : ∀ (len : Nat) (C1 C2 : List Nat), C1.length = len → n = i + 1 + C1.length + C2.length + T.length →
    SoundL Try.prog [2] (.loop (loopAt Try.prog 63 3)) (T63 n a m b uu uu uu (.int .i64 (Int.ofNat i)) uu (.int .i64 (Int.ofNat (i + C1.length))) uu uu uu uu uu) (bsS (nc (P ++ (C1 ++ y :: (C2 ++ T)))) oB oL) 3 3 (.exit 6) (T63 n a m b uu uu uu (.int .i64 (Int.ofNat i)) uu (.int .i64 (Int.ofNat i)) uu uu uu uu uu) (bsS (nc (P ++ (y :: (C1 ++ (C2 ++ T))))) oB oL) := by
  intro len
  induction len with
  | zero =>
    intro C1 C2 hl hnn
    have : C1 = [] := List.eq_nil_of_length_eq_zero hl
    subst this
    refine SoundL.stop (SL hB hL (runX_sound mixed none_sound (m3_end n a b m i 0 0 i 0 0 0 0 0 0 0 0 0 0 0 0 oB oL _ [] [] [] [] .nilFunc) ⟨gtq _ _ _ (by simp), trivial⟩) ?_ (nc_names _ _)) (by simp)
    unfold T63
    repeat (first | exact rfl | refine ⟨_, _, rfl, ?_, ?_⟩ | exact .inr ⟨rfl, rfl⟩ | exact .inl ⟨rfl, rfl⟩)
  | succ len ih =>
    intro C1 C2 hl hnn
    obtain ⟨C0, x, rfl⟩ : ∃ C0 x, C1 = C0 ++ [x] := ⟨C1.dropLast, C1.getLast (by intro h; rw [h] at hl; simp at hl), (List.dropLast_concat_getLast _).symm⟩
    simp only [List.length_append, List.length_cons, List.length_nil] at hl hnn
    have ey : P ++ ((C0 ++ [x]) ++ y :: (C2 ++ T)) = (P ++ (C0 ++ [x])) ++ y :: (C2 ++ T) := by simp
    have ex : P ++ ((C0 ++ [x]) ++ y :: (C2 ++ T)) = (P ++ C0) ++ x :: (y :: (C2 ++ T)) := by simp
    have hg : i + (C0 ++ [x]).length = i + C0.length + 1 := by simp; omega
    rw [hg]
    have s1 : (P ++ ((C0 ++ [x]) ++ y :: (C2 ++ T))).set (i + C0.length + 1) x = (P ++ C0) ++ x :: (x :: (C2 ++ T)) := by
      rw [set_at ey (by simp; omega)]
      simp
    have s2 : ((P ++ ((C0 ++ [x]) ++ y :: (C2 ++ T))).set (i + C0.length + 1) x).set (i + C0.length + 1 - 1) y = P ++ (C0 ++ y :: ((x :: C2) ++ T)) := by
      rw [s1, set_at rfl (by simp; omega)]
      simp
    have hlen : (P ++ ((C0 ++ [x]) ++ y :: (C2 ++ T))).length = n := by simp; omega
    have ih := ih C0 (x :: C2) (by omega) (by simp; omega)
    rw [← s2, show P ++ (y :: (C0 ++ ((x :: C2) ++ T))) = P ++ (y :: ((C0 ++ [x]) ++ (C2 ++ T))) from by simp] at ih
    refine SoundL.next (SL hB hL (runX_sound mixed none_sound (m3_go n a b m i 0 0 (i + C0.length + 1) 0 0 0 0 0 0 0 0 x y 0 0 oB oL _ _ _ [] [] .nilFunc) ⟨gtq _ _ _ (by simp; omega), sub_q (by omega) rfl (by omega), sub_q (by omega) rfl (by omega), idx_q (by omega), ld_q (get_at ex (by simp; omega)), idx_q (by omega), ld_q (get_at ey (by simp; omega)), idx_q (by omega), sto_q (by omega), idx_q (by omega), sto_q (by rw [List.length_set]; omega), sub_q (by omega) rfl (by omega), trivial⟩) ?_ (nc_names _ _)) ih
    unfold T63
    repeat (first | exact rfl | refine ⟨_, _, rfl, ?_, ?_⟩ | exact .inr ⟨rfl, rfl⟩ | exact .inl ⟨rfl, rfl⟩)
end
end Go.Proofs.Ythooafgfpnedhaa.specsJudge
