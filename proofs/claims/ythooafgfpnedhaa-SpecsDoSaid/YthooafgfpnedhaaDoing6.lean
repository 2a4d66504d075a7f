/- slices.Sort of numbers gives them in order. Conditions: those that each theorem names, and no others. -/
import Derived.Test.YthooafgfpnedhaaDoing5
import Derived.Sort.LotC
namespace Go.Proofs.Ythooafgfpnedhaa.specsDo.pq
open Go Go.Mini Go.Sort
/-! ### the scans -/
section
variable {n : Nat} (hn : n < 1000000)
include hn
theorem e1_loop {a j : Nat} (ha : a < n) (hj : j < n) {d : Array Int} (hd : n = d.size) : ∀ (m i : Nat), j + 1 - i ≤ m → i < 1000001 →
    SoundL Try.prog [0] (.loop (loopAt Try.prog 71 1)) (T71 n a i j) (bsA (ur d)) 1 1 (.exit 2) (T71 n a (scanUp (fun x => !ltInt d[a]! x) d j i) j) (bsA (ur d)) := by
  intro m
  induction m with
  | zero =>
    intro i h hi
    rw [scanUp, if_neg (by simp; omega)]
    refine SoundL.stop (SLA (runX_sound mixed none_sound (e1_out n a 0 i j 0 0 0 0 0 0 0 0 0 0 0 0 0 true (ur d) [] [] [] [] [] [] [] .nilFunc .nilFunc .nilFunc .nilFunc) ⟨bF (by simp; omega), trivial⟩) ?_ (ur_nm _ _)) (by simp)
    unfold T71
    repeat (first | exact rfl | refine ⟨_, _, rfl, ?_, ?_⟩ | exact .inr ⟨rfl, rfl⟩ | exact .inl ⟨rfl, rfl⟩ | exact see_same _)
  | succ m ih =>
    intro i h hi
    rw [scanUp]
    by_cases hij : i ≤ j
    · cases hl : ltInt d[a]! d[i]! with
      | true =>
        rw [if_neg (by simp [hl])]
        refine SoundL.stop (SLA (runX_sound mixed none_sound (e1_stop n a 0 i j 0 0 0 0 0 0 0 d[a]! d[i]! 0 0 0 0 true (ur d) [] [] [] [] [] [] [] .nilFunc .nilFunc .nilFunc .nilFunc) ⟨bT (by simp; omega), idxP (by omega), ldP (by omega), idxP (by omega), ldP (by omega), lessB hl, trivial⟩) ?_ (ur_nm _ _)) (by simp)
        unfold T71
        repeat (first | exact rfl | refine ⟨_, _, rfl, ?_, ?_⟩ | exact .inr ⟨rfl, rfl⟩ | exact .inl ⟨rfl, rfl⟩ | exact see_same _)
      | false =>
        rw [if_pos (by simp [hl]; omega)]
        refine SoundL.next (SLA (runX_sound mixed none_sound (e1_go n a 0 i j 0 0 0 0 0 0 0 d[a]! d[i]! 0 0 0 0 true (ur d) [] [] [] [] [] [] [] .nilFunc .nilFunc .nilFunc .nilFunc) ⟨bT (by simp; omega), idxP (by omega), ldP (by omega), idxP (by omega), ldP (by omega), lessB hl, wN _ (by first | rfl | (simp only [Int.ofNat_eq_natCast]; omega)) (by omega), trivial⟩) ?_ (ur_nm _ _)) (ih (i + 1) (by omega) (by omega))
        unfold T71
        repeat (first | exact rfl | refine ⟨_, _, rfl, ?_, ?_⟩ | exact .inr ⟨rfl, rfl⟩ | exact .inl ⟨rfl, rfl⟩ | exact see_same _)
    · rw [if_neg (by simp; omega)]
      refine SoundL.stop (SLA (runX_sound mixed none_sound (e1_out n a 0 i j 0 0 0 0 0 0 0 0 0 0 0 0 0 true (ur d) [] [] [] [] [] [] [] .nilFunc .nilFunc .nilFunc .nilFunc) ⟨bF (by simp; omega), trivial⟩) ?_ (ur_nm _ _)) (by simp)
      unfold T71
      repeat (first | exact rfl | refine ⟨_, _, rfl, ?_, ?_⟩ | exact .inr ⟨rfl, rfl⟩ | exact .inl ⟨rfl, rfl⟩ | exact see_same _)
theorem e2_loop {a i : Nat} (ha : a < n) (hi : 1 ≤ i) {d : Array Int} (hd : n = d.size) : ∀ (j : Nat), j < n →
    SoundL Try.prog [0] (.loop (loopAt Try.prog 71 2)) (T71 n a i j) (bsA (ur d)) 1 1 (.exit 4) (T71 n a i (scanDown (fun x => ltInt d[a]! x) d i j)) (bsA (ur d)) := by
  intro j
  induction j with
  | zero =>
    intro hj
    refine SoundL.stop (SLA (runX_sound mixed none_sound (e2_out n a 0 i 0 0 0 0 0 0 0 0 0 0 0 0 0 0 true (ur d) [] [] [] [] [] [] [] .nilFunc .nilFunc .nilFunc .nilFunc) ⟨bF (by simp; omega), trivial⟩) ?_ (ur_nm _ _)) (by simp)
    unfold T71
    repeat (first | exact rfl | refine ⟨_, _, rfl, ?_, ?_⟩ | exact .inr ⟨rfl, rfl⟩ | exact .inl ⟨rfl, rfl⟩ | exact see_same _)
  | succ j ih =>
    intro hj
    rw [scanDown]
    by_cases hij : i ≤ j + 1
    · cases hl : ltInt d[a]! d[j+1]! with
      | false =>
        rw [if_neg (by simp [hl])]
        refine SoundL.stop (SLA (runX_sound mixed none_sound (e2_stop n a 0 i (j+1) 0 0 0 0 0 0 0 d[a]! d[j+1]! 0 0 0 0 true (ur d) [] [] [] [] [] [] [] .nilFunc .nilFunc .nilFunc .nilFunc) ⟨bT (by simp; omega), idxP (by omega), ldP (by omega), idxP (by omega), ldP (by omega), lessB hl, trivial⟩) ?_ (ur_nm _ _)) (by simp)
        unfold T71
        repeat (first | exact rfl | refine ⟨_, _, rfl, ?_, ?_⟩ | exact .inr ⟨rfl, rfl⟩ | exact .inl ⟨rfl, rfl⟩ | exact see_same _)
      | true =>
        rw [if_pos (by simp [hl]; omega)]
        refine SoundL.next (SLA (runX_sound mixed none_sound (e2_go n a 0 i (j+1) 0 0 0 0 0 0 0 d[a]! d[j+1]! 0 0 0 0 true (ur d) [] [] [] [] [] [] [] .nilFunc .nilFunc .nilFunc .nilFunc) ⟨bT (by simp; omega), idxP (by omega), ldP (by omega), idxP (by omega), ldP (by omega), lessB hl, wN _ (by first | rfl | (simp only [Int.ofNat_eq_natCast]; omega)) (by omega), trivial⟩) ?_ (ur_nm _ _)) (ih (by omega))
        unfold T71
        repeat (first | exact rfl | refine ⟨_, _, rfl, ?_, ?_⟩ | exact .inr ⟨rfl, rfl⟩ | exact .inl ⟨rfl, rfl⟩ | exact see_same _)
    · rw [if_neg (by simp; omega)]
      refine SoundL.stop (SLA (runX_sound mixed none_sound (e2_out n a 0 i (j+1) 0 0 0 0 0 0 0 0 0 0 0 0 0 true (ur d) [] [] [] [] [] [] [] .nilFunc .nilFunc .nilFunc .nilFunc) ⟨bF (by simp; omega), trivial⟩) ?_ (ur_nm _ _)) (by simp)
      unfold T71
      repeat (first | exact rfl | refine ⟨_, _, rfl, ?_, ?_⟩ | exact .inr ⟨rfl, rfl⟩ | exact .inl ⟨rfl, rfl⟩ | exact see_same _)
theorem pA_loop {a j : Nat} (ha : a < n) (hj : j < n) {d : Array Int} (hd : n = d.size) : ∀ (m i : Nat), j + 1 - i ≤ m → i < 1000001 →
    SoundL Try.prog [0] (.loop (loopAt Try.prog 72 0)) (T72 n a i j) (bsA (ur d)) 1 1 (.exit 0) (T72 n a (scanUp (fun x => ltInt x d[a]!) d j i) j) (bsA (ur d)) := by
  intro m
  induction m with
  | zero =>
    intro i h hi
    rw [scanUp, if_neg (by simp; omega)]
    refine SoundL.stop (SLA (runX_sound mixed none_sound (pA_out n a 0 i j 0 0 0 0 0 0 0 0 0 0 0 0 0 true (ur d) [] [] [] [] [] [] [] .nilFunc .nilFunc .nilFunc .nilFunc) ⟨bF (by simp; omega), trivial⟩) ?_ (ur_nm _ _)) (by simp)
    unfold T72
    repeat (first | exact rfl | refine ⟨_, _, rfl, ?_, ?_⟩ | exact .inr ⟨rfl, rfl⟩ | exact .inl ⟨rfl, rfl⟩ | exact see_same _)
  | succ m ih =>
    intro i h hi
    rw [scanUp]
    by_cases hij : i ≤ j
    · cases hl : ltInt d[i]! d[a]! with
      | false =>
        rw [if_neg (by simp [hl])]
        refine SoundL.stop (SLA (runX_sound mixed none_sound (pA_stop n a 0 i j 0 0 0 0 0 0 0 d[i]! d[a]! 0 0 0 0 true (ur d) [] [] [] [] [] [] [] .nilFunc .nilFunc .nilFunc .nilFunc) ⟨bT (by simp; omega), idxP (by omega), ldP (by omega), idxP (by omega), ldP (by omega), lessB hl, trivial⟩) ?_ (ur_nm _ _)) (by simp)
        unfold T72
        repeat (first | exact rfl | refine ⟨_, _, rfl, ?_, ?_⟩ | exact .inr ⟨rfl, rfl⟩ | exact .inl ⟨rfl, rfl⟩ | exact see_same _)
      | true =>
        rw [if_pos (by simp [hl]; omega)]
        refine SoundL.next (SLA (runX_sound mixed none_sound (pA_go n a 0 i j 0 0 0 0 0 0 0 d[i]! d[a]! 0 0 0 0 true (ur d) [] [] [] [] [] [] [] .nilFunc .nilFunc .nilFunc .nilFunc) ⟨bT (by simp; omega), idxP (by omega), ldP (by omega), idxP (by omega), ldP (by omega), lessB hl, wN _ (by first | rfl | (simp only [Int.ofNat_eq_natCast]; omega)) (by omega), trivial⟩) ?_ (ur_nm _ _)) (ih (i + 1) (by omega) (by omega))
        unfold T72
        repeat (first | exact rfl | refine ⟨_, _, rfl, ?_, ?_⟩ | exact .inr ⟨rfl, rfl⟩ | exact .inl ⟨rfl, rfl⟩ | exact see_same _)
    · rw [if_neg (by simp; omega)]
      refine SoundL.stop (SLA (runX_sound mixed none_sound (pA_out n a 0 i j 0 0 0 0 0 0 0 0 0 0 0 0 0 true (ur d) [] [] [] [] [] [] [] .nilFunc .nilFunc .nilFunc .nilFunc) ⟨bF (by simp; omega), trivial⟩) ?_ (ur_nm _ _)) (by simp)
      unfold T72
      repeat (first | exact rfl | refine ⟨_, _, rfl, ?_, ?_⟩ | exact .inr ⟨rfl, rfl⟩ | exact .inl ⟨rfl, rfl⟩ | exact see_same _)
theorem pC_loop {a j : Nat} (ha : a < n) (hj : j < n) {d : Array Int} (hd : n = d.size) : ∀ (m i : Nat), j + 1 - i ≤ m → i < 1000001 →
    SoundL Try.prog [0] (.loop (loopAt Try.prog 72 3)) (T72 n a i j) (bsA (ur d)) 1 1 (.exit 6) (T72 n a (scanUp (fun x => ltInt x d[a]!) d j i) j) (bsA (ur d)) := by
  intro m
  induction m with
  | zero =>
    intro i h hi
    rw [scanUp, if_neg (by simp; omega)]
    refine SoundL.stop (SLA (runX_sound mixed none_sound (pC_out n a 0 i j 0 0 0 0 0 0 0 0 0 0 0 0 0 true (ur d) [] [] [] [] [] [] [] .nilFunc .nilFunc .nilFunc .nilFunc) ⟨bF (by simp; omega), trivial⟩) ?_ (ur_nm _ _)) (by simp)
    unfold T72
    repeat (first | exact rfl | refine ⟨_, _, rfl, ?_, ?_⟩ | exact .inr ⟨rfl, rfl⟩ | exact .inl ⟨rfl, rfl⟩ | exact see_same _)
  | succ m ih =>
    intro i h hi
    rw [scanUp]
    by_cases hij : i ≤ j
    · cases hl : ltInt d[i]! d[a]! with
      | false =>
        rw [if_neg (by simp [hl])]
        refine SoundL.stop (SLA (runX_sound mixed none_sound (pC_stop n a 0 i j 0 0 0 0 0 0 0 d[i]! d[a]! 0 0 0 0 true (ur d) [] [] [] [] [] [] [] .nilFunc .nilFunc .nilFunc .nilFunc) ⟨bT (by simp; omega), idxP (by omega), ldP (by omega), idxP (by omega), ldP (by omega), lessB hl, trivial⟩) ?_ (ur_nm _ _)) (by simp)
        unfold T72
        repeat (first | exact rfl | refine ⟨_, _, rfl, ?_, ?_⟩ | exact .inr ⟨rfl, rfl⟩ | exact .inl ⟨rfl, rfl⟩ | exact see_same _)
      | true =>
        rw [if_pos (by simp [hl]; omega)]
        refine SoundL.next (SLA (runX_sound mixed none_sound (pC_go n a 0 i j 0 0 0 0 0 0 0 d[i]! d[a]! 0 0 0 0 true (ur d) [] [] [] [] [] [] [] .nilFunc .nilFunc .nilFunc .nilFunc) ⟨bT (by simp; omega), idxP (by omega), ldP (by omega), idxP (by omega), ldP (by omega), lessB hl, wN _ (by first | rfl | (simp only [Int.ofNat_eq_natCast]; omega)) (by omega), trivial⟩) ?_ (ur_nm _ _)) (ih (i + 1) (by omega) (by omega))
        unfold T72
        repeat (first | exact rfl | refine ⟨_, _, rfl, ?_, ?_⟩ | exact .inr ⟨rfl, rfl⟩ | exact .inl ⟨rfl, rfl⟩ | exact see_same _)
    · rw [if_neg (by simp; omega)]
      refine SoundL.stop (SLA (runX_sound mixed none_sound (pC_out n a 0 i j 0 0 0 0 0 0 0 0 0 0 0 0 0 true (ur d) [] [] [] [] [] [] [] .nilFunc .nilFunc .nilFunc .nilFunc) ⟨bF (by simp; omega), trivial⟩) ?_ (ur_nm _ _)) (by simp)
      unfold T72
      repeat (first | exact rfl | refine ⟨_, _, rfl, ?_, ?_⟩ | exact .inr ⟨rfl, rfl⟩ | exact .inl ⟨rfl, rfl⟩ | exact see_same _)
theorem pB_loop {a i : Nat} (ha : a < n) (hi : 1 ≤ i) {d : Array Int} (hd : n = d.size) : ∀ (j : Nat), j < n →
    SoundL Try.prog [0] (.loop (loopAt Try.prog 72 1)) (T72 n a i j) (bsA (ur d)) 1 1 (.exit 2) (T72 n a i (scanDown (fun x => !ltInt x d[a]!) d i j)) (bsA (ur d)) := by
  intro j
  induction j with
  | zero =>
    intro hj
    refine SoundL.stop (SLA (runX_sound mixed none_sound (pB_out n a 0 i 0 0 0 0 0 0 0 0 0 0 0 0 0 0 true (ur d) [] [] [] [] [] [] [] .nilFunc .nilFunc .nilFunc .nilFunc) ⟨bF (by simp; omega), trivial⟩) ?_ (ur_nm _ _)) (by simp)
    unfold T72
    repeat (first | exact rfl | refine ⟨_, _, rfl, ?_, ?_⟩ | exact .inr ⟨rfl, rfl⟩ | exact .inl ⟨rfl, rfl⟩ | exact see_same _)
  | succ j ih =>
    intro hj
    rw [scanDown]
    by_cases hij : i ≤ j + 1
    · cases hl : ltInt d[j+1]! d[a]! with
      | true =>
        rw [if_neg (by simp [hl])]
        refine SoundL.stop (SLA (runX_sound mixed none_sound (pB_stop n a 0 i (j+1) 0 0 0 0 0 0 0 d[j+1]! d[a]! 0 0 0 0 true (ur d) [] [] [] [] [] [] [] .nilFunc .nilFunc .nilFunc .nilFunc) ⟨bT (by simp; omega), idxP (by omega), ldP (by omega), idxP (by omega), ldP (by omega), lessB hl, trivial⟩) ?_ (ur_nm _ _)) (by simp)
        unfold T72
        repeat (first | exact rfl | refine ⟨_, _, rfl, ?_, ?_⟩ | exact .inr ⟨rfl, rfl⟩ | exact .inl ⟨rfl, rfl⟩ | exact see_same _)
      | false =>
        rw [if_pos (by simp [hl]; omega)]
        refine SoundL.next (SLA (runX_sound mixed none_sound (pB_go n a 0 i (j+1) 0 0 0 0 0 0 0 d[j+1]! d[a]! 0 0 0 0 true (ur d) [] [] [] [] [] [] [] .nilFunc .nilFunc .nilFunc .nilFunc) ⟨bT (by simp; omega), idxP (by omega), ldP (by omega), idxP (by omega), ldP (by omega), lessB hl, wN _ (by first | rfl | (simp only [Int.ofNat_eq_natCast]; omega)) (by omega), trivial⟩) ?_ (ur_nm _ _)) (ih (by omega))
        unfold T72
        repeat (first | exact rfl | refine ⟨_, _, rfl, ?_, ?_⟩ | exact .inr ⟨rfl, rfl⟩ | exact .inl ⟨rfl, rfl⟩ | exact see_same _)
    · rw [if_neg (by simp; omega)]
      refine SoundL.stop (SLA (runX_sound mixed none_sound (pB_out n a 0 i (j+1) 0 0 0 0 0 0 0 0 0 0 0 0 0 true (ur d) [] [] [] [] [] [] [] .nilFunc .nilFunc .nilFunc .nilFunc) ⟨bF (by simp; omega), trivial⟩) ?_ (ur_nm _ _)) (by simp)
      unfold T72
      repeat (first | exact rfl | refine ⟨_, _, rfl, ?_, ?_⟩ | exact .inr ⟨rfl, rfl⟩ | exact .inl ⟨rfl, rfl⟩ | exact see_same _)
theorem pD_loop {a i : Nat} (ha : a < n) (hi : 1 ≤ i) {d : Array Int} (hd : n = d.size) : ∀ (j : Nat), j < n →
    SoundL Try.prog [0] (.loop (loopAt Try.prog 72 4)) (T72 n a i j) (bsA (ur d)) 1 1 (.exit 8) (T72 n a i (scanDown (fun x => !ltInt x d[a]!) d i j)) (bsA (ur d)) := by
  intro j
  induction j with
  | zero =>
    intro hj
    refine SoundL.stop (SLA (runX_sound mixed none_sound (pD_out n a 0 i 0 0 0 0 0 0 0 0 0 0 0 0 0 0 true (ur d) [] [] [] [] [] [] [] .nilFunc .nilFunc .nilFunc .nilFunc) ⟨bF (by simp; omega), trivial⟩) ?_ (ur_nm _ _)) (by simp)
    unfold T72
    repeat (first | exact rfl | refine ⟨_, _, rfl, ?_, ?_⟩ | exact .inr ⟨rfl, rfl⟩ | exact .inl ⟨rfl, rfl⟩ | exact see_same _)
  | succ j ih =>
    intro hj
    rw [scanDown]
    by_cases hij : i ≤ j + 1
    · cases hl : ltInt d[j+1]! d[a]! with
      | true =>
        rw [if_neg (by simp [hl])]
        refine SoundL.stop (SLA (runX_sound mixed none_sound (pD_stop n a 0 i (j+1) 0 0 0 0 0 0 0 d[j+1]! d[a]! 0 0 0 0 true (ur d) [] [] [] [] [] [] [] .nilFunc .nilFunc .nilFunc .nilFunc) ⟨bT (by simp; omega), idxP (by omega), ldP (by omega), idxP (by omega), ldP (by omega), lessB hl, trivial⟩) ?_ (ur_nm _ _)) (by simp)
        unfold T72
        repeat (first | exact rfl | refine ⟨_, _, rfl, ?_, ?_⟩ | exact .inr ⟨rfl, rfl⟩ | exact .inl ⟨rfl, rfl⟩ | exact see_same _)
      | false =>
        rw [if_pos (by simp [hl]; omega)]
        refine SoundL.next (SLA (runX_sound mixed none_sound (pD_go n a 0 i (j+1) 0 0 0 0 0 0 0 d[j+1]! d[a]! 0 0 0 0 true (ur d) [] [] [] [] [] [] [] .nilFunc .nilFunc .nilFunc .nilFunc) ⟨bT (by simp; omega), idxP (by omega), ldP (by omega), idxP (by omega), ldP (by omega), lessB hl, wN _ (by first | rfl | (simp only [Int.ofNat_eq_natCast]; omega)) (by omega), trivial⟩) ?_ (ur_nm _ _)) (ih (by omega))
        unfold T72
        repeat (first | exact rfl | refine ⟨_, _, rfl, ?_, ?_⟩ | exact .inr ⟨rfl, rfl⟩ | exact .inl ⟨rfl, rfl⟩ | exact see_same _)
    · rw [if_neg (by simp; omega)]
      refine SoundL.stop (SLA (runX_sound mixed none_sound (pD_out n a 0 i (j+1) 0 0 0 0 0 0 0 0 0 0 0 0 0 true (ur d) [] [] [] [] [] [] [] .nilFunc .nilFunc .nilFunc .nilFunc) ⟨bF (by simp; omega), trivial⟩) ?_ (ur_nm _ _)) (by simp)
      unfold T72
      repeat (first | exact rfl | refine ⟨_, _, rfl, ?_, ?_⟩ | exact .inr ⟨rfl, rfl⟩ | exact .inl ⟨rfl, rfl⟩ | exact see_same _)
end
end Go.Proofs.Ythooafgfpnedhaa.specsDo.pq
namespace Go.Proofs.Ythooafgfpnedhaa.specsDo.pq
open Go Go.Mini Go.Sort
/-! ### partitionEqual, partition -/
theorem pl_sz (a : Nat) : ∀ (m i j : Nat) (d : Array Int), j + 1 - i ≤ m → (partLoop ltInt a i j d).2.size = d.size := by
  intro m
  induction m with
  | zero =>
    intro i j d h
    rw [partLoop_eq]
    have h1 := scanUp_ge (fun x => ltInt x d[a]!) d j i
    have h2 := scanDown_le (fun x => !ltInt x d[a]!) d (scanUp (fun x => ltInt x d[a]!) d j i) j
    rw [if_pos (by omega)]
  | succ m ih =>
    intro i j d h
    rw [partLoop_eq]
    split
    · rfl
    · rename_i hg
      have := partLoop_guard ltInt a i j d hg
      rw [ih _ _ _ (by omega)]
      simp
theorem pl_le (a : Nat) : ∀ (m i j : Nat) (d : Array Int), j + 1 - i ≤ m → (partLoop ltInt a i j d).1 ≤ j := by
  intro m
  induction m with
  | zero =>
    intro i j d h
    rw [partLoop_eq]
    have h1 := scanUp_ge (fun x => ltInt x d[a]!) d j i
    have h2 := scanDown_le (fun x => !ltInt x d[a]!) d (scanUp (fun x => ltInt x d[a]!) d j i) j
    rw [if_pos (by omega)]
    exact h2
  | succ m ih =>
    intro i j d h
    rw [partLoop_eq]
    have h2 := scanDown_le (fun x => !ltInt x d[a]!) d (scanUp (fun x => ltInt x d[a]!) d j i) j
    split
    · exact h2
    · rename_i hg
      have := partLoop_guard ltInt a i j d hg
      exact Nat.le_trans (ih _ _ _ (by omega)) (by omega)
theorem su_bd (p : Int → Bool) (d : Array Int) (j : Nat) : ∀ (m i : Nat), j + 1 - i ≤ m → i ≤ j + 2 → scanUp p d j i ≤ j + 2 := by
  intro m
  induction m with
  | zero => intro i h hi; rw [scanUp]; split
            · rename_i h2; simp at h2; omega
            · exact hi
  | succ m ih =>
    intro i h hi
    rw [scanUp]
    split
    · rename_i h2; simp at h2; exact ih _ (by omega) (by omega)
    · exact hi
section
variable {n : Nat} (hn : n < 1000000)
include hn
theorem eq_loop {a : Nat} (ha : a < n) : ∀ (m i j : Nat) (d : Array Int), j + 1 - i ≤ m → 1 ≤ i → i ≤ j + 2 → j < n → n = d.size →
    ∃ h, SoundL Try.prog [0] (.loop (loopAt Try.prog 71 0)) (T71 n a i j) (bsA (ur d)) 1 1 (.exit 0) (T71 n a (partEqLoop ltInt a i j d).1 h) (bsA (ur (partEqLoop ltInt a i j d).2)) := by
  intro m
  induction m with
  | zero =>
    intro i j d h hi hij hj hd
    have h1 := scanUp_ge (fun x => !ltInt d[a]! x) d j i
    have h2 := scanDown_le (fun x => ltInt d[a]! x) d (scanUp (fun x => !ltInt d[a]! x) d j i) j
    rw [partEqLoop_eq, if_pos (by omega)]
    have k1 := e1_loop hn ha hj hd _ i (Nat.le_refl _) (by omega) none none []
    have k2 := e2_loop hn ha (show 1 ≤ scanUp (fun x => !ltInt d[a]! x) d j i by omega) hd j hj none none ([0] ++ [])
    refine ⟨scanDown (fun x => ltInt d[a]! x) d (scanUp (fun x => !ltInt d[a]! x) d j i) j, SoundL.stop (SLA (runX_sound mixed none_sound (eq_out n a 0 i j (scanDown (fun x => ltInt d[a]! x) d (scanUp (fun x => !ltInt d[a]! x) d j i) j) (scanUp (fun x => !ltInt d[a]! x) d j i) 0 0 0 0 0 0 0 0 0 0 0 true (ur d) [] [] [] [] [] [] [] .nilFunc .nilFunc .nilFunc .nilFunc) ⟨Sound.enter k1 ?_, Sound.enter k2 ?_, bT (by simp; omega), trivial⟩) ?_ (ur_nm _ _)) (by simp)⟩
    · unfold T71
      repeat (first | exact rfl | refine ⟨_, _, rfl, ?_, ?_⟩ | exact .inr ⟨rfl, rfl⟩ | exact .inl ⟨rfl, rfl⟩ | exact see_same _)
    · unfold T71
      repeat (first | exact rfl | refine ⟨_, _, rfl, ?_, ?_⟩ | exact .inr ⟨rfl, rfl⟩ | exact .inl ⟨rfl, rfl⟩ | exact see_same _)
    · unfold T71
      repeat (first | exact rfl | refine ⟨_, _, rfl, ?_, ?_⟩ | exact .inr ⟨rfl, rfl⟩ | exact .inl ⟨rfl, rfl⟩ | exact see_same _)
  | succ m ih =>
    intro i j d h hi hij hj hd
    have h1 := scanUp_ge (fun x => !ltInt d[a]! x) d j i
    have h2 := scanDown_le (fun x => ltInt d[a]! x) d (scanUp (fun x => !ltInt d[a]! x) d j i) j
    have h3 := su_bd (fun x => !ltInt d[a]! x) d j _ i (Nat.le_refl _) hij
    rw [partEqLoop_eq]
    have k1 := e1_loop hn ha hj hd _ i (Nat.le_refl _) (by omega) none none []
    have k2 := e2_loop hn ha (show 1 ≤ scanUp (fun x => !ltInt d[a]! x) d j i by omega) hd j hj none none ([0] ++ [])
    by_cases hg : scanUp (fun x => !ltInt d[a]! x) d j i > scanDown (fun x => ltInt d[a]! x) d (scanUp (fun x => !ltInt d[a]! x) d j i) j
    · rw [if_pos hg]
      refine ⟨scanDown (fun x => ltInt d[a]! x) d (scanUp (fun x => !ltInt d[a]! x) d j i) j, SoundL.stop (SLA (runX_sound mixed none_sound (eq_out n a 0 i j (scanDown (fun x => ltInt d[a]! x) d (scanUp (fun x => !ltInt d[a]! x) d j i) j) (scanUp (fun x => !ltInt d[a]! x) d j i) 0 0 0 0 0 0 0 0 0 0 0 true (ur d) [] [] [] [] [] [] [] .nilFunc .nilFunc .nilFunc .nilFunc) ⟨Sound.enter k1 ?_, Sound.enter k2 ?_, bT (by simp; omega), trivial⟩) ?_ (ur_nm _ _)) (by simp)⟩
      · unfold T71
        repeat (first | exact rfl | refine ⟨_, _, rfl, ?_, ?_⟩ | exact .inr ⟨rfl, rfl⟩ | exact .inl ⟨rfl, rfl⟩ | exact see_same _)
      · unfold T71
        repeat (first | exact rfl | refine ⟨_, _, rfl, ?_, ?_⟩ | exact .inr ⟨rfl, rfl⟩ | exact .inl ⟨rfl, rfl⟩ | exact see_same _)
      · unfold T71
        repeat (first | exact rfl | refine ⟨_, _, rfl, ?_, ?_⟩ | exact .inr ⟨rfl, rfl⟩ | exact .inl ⟨rfl, rfl⟩ | exact see_same _)
    · rw [if_neg hg]
      generalize hi2 : scanUp (fun x => !ltInt d[a]! x) d j i = i2 at h1 h2 h3 k1 k2 hg ⊢
      generalize hj2 : scanDown (fun x => ltInt d[a]! x) d i2 j = j2 at h2 k2 hg ⊢
      obtain ⟨q, hq⟩ := ih (i2 + 1) (j2 - 1) (swp d i2 j2) (by omega) (by omega) (by omega) (by omega) (by simp [hd])
      refine ⟨q, SoundL.next (SLA (runX_sound mixed none_sound (eq_go n a 0 i j j2 i2 0 0 0 0 0 d[i2]! d[j2]! 0 0 0 0 true (ur d) (ur (d.setIfInBounds i2 d[j2]!)) (ur (swp d i2 j2)) [] [] [] [] [] .nilFunc .nilFunc .nilFunc .nilFunc)
        ⟨Sound.enter k1 ?_, Sound.enter k2 ?_, bF (by simp; omega), idxP (by omega), ldP (by omega), idxP (by omega), ldP (by omega), idxP (by omega), stoP (by omega), idxP (by omega), stoP (by simp; omega), wN _ (by first | rfl | (simp only [Int.ofNat_eq_natCast]; omega)) (by omega), wN _ (by first | rfl | (simp only [Int.ofNat_eq_natCast]; omega)) (by omega), trivial⟩) ?_ (ur_nm _ _)) hq⟩
      · unfold T71
        repeat (first | exact rfl | refine ⟨_, _, rfl, ?_, ?_⟩ | exact .inr ⟨rfl, rfl⟩ | exact .inl ⟨rfl, rfl⟩ | exact see_same _)
      · unfold T71
        repeat (first | exact rfl | refine ⟨_, _, rfl, ?_, ?_⟩ | exact .inr ⟨rfl, rfl⟩ | exact .inl ⟨rfl, rfl⟩ | exact see_same _)
      · unfold T71
        repeat (first | exact rfl | refine ⟨_, _, rfl, ?_, ?_⟩ | exact .inr ⟨rfl, rfl⟩ | exact .inl ⟨rfl, rfl⟩ | exact see_same _)
theorem eq_all {a b p : Nat} {d : Array Int} (hd : n = d.size) (hb : b ≤ n) (ha : a < b) (hp : p < b) : CallP 71 [.osl 0 0 n 1, .int .i64 (Int.ofNat a), .int .i64 (Int.ofNat b), .int .i64 (Int.ofNat p)] d (partitionEqual ltInt d a b p).2 (.int .i64 (Int.ofNat (partitionEqual ltInt d a b p).1)) := by
  intro esc esc' W
  obtain ⟨q, hq⟩ := eq_loop hn (a := a) (by omega) _ (a + 1) (b - 1) (swp d a p) (Nat.le_refl _) (by omega) (by omega) (by omega) (by simp [hd])
  have h := hq none none ([0] ++ ([0] ++ []))
  refine CSA (runX_sound mixed none_sound (eq_call n a b 0 0 q (partitionEqual ltInt d a b p).1 p 0 0 0 0 d[a]! d[p]! 0 0 0 0 true (ur d) (ur (d.setIfInBounds a d[p]!)) (ur (swp d a p)) (ur (partitionEqual ltInt d a b p).2) [] [] [] [] .nilFunc .nilFunc .nilFunc .nilFunc)
    ⟨idxP (by omega), ldP (by omega), idxP (by omega), ldP (by omega), idxP (by omega), stoP (by omega), idxP (by omega), stoP (by simp; omega), wN _ (by first | rfl | (simp only [Int.ofNat_eq_natCast]; omega)) (by omega), wN _ (by first | rfl | (simp only [Int.ofNat_eq_natCast]; omega)) (by omega), Sound.enter h ?_, trivial⟩) rfl (ur_nm _ _) esc esc' W
  unfold T71
  repeat (first | exact rfl | refine ⟨_, _, rfl, ?_, ?_⟩ | exact .inr ⟨rfl, rfl⟩ | exact .inl ⟨rfl, rfl⟩ | exact see_same _)
theorem pt_loop {a : Nat} (ha : a < n) : ∀ (m i j : Nat) (d : Array Int), j + 1 - i ≤ m → 1 ≤ i → i ≤ j + 2 → j < n → n = d.size →
    ∃ h, SoundL Try.prog [0] (.loop (loopAt Try.prog 72 2)) (T72 n a i j) (bsA (ur d)) 1 1 (.exit 4) (T72 n a h (partLoop ltInt a i j d).1) (bsA (ur (partLoop ltInt a i j d).2)) := by
  intro m
  induction m with
  | zero =>
    intro i j d h hi hij hj hd
    have h1 := scanUp_ge (fun x => ltInt x d[a]!) d j i
    have h2 := scanDown_le (fun x => !ltInt x d[a]!) d (scanUp (fun x => ltInt x d[a]!) d j i) j
    rw [partLoop_eq, if_pos (by omega)]
    have k1 := pC_loop hn ha hj hd _ i (Nat.le_refl _) (by omega) none none []
    have k2 := pD_loop hn ha (show 1 ≤ scanUp (fun x => ltInt x d[a]!) d j i by omega) hd j hj none none ([0] ++ [])
    refine ⟨scanUp (fun x => ltInt x d[a]!) d j i, SoundL.stop (SLA (runX_sound mixed none_sound (pt_out n a 0 i j (scanDown (fun x => !ltInt x d[a]!) d (scanUp (fun x => ltInt x d[a]!) d j i) j) (scanUp (fun x => ltInt x d[a]!) d j i) 0 0 0 0 0 0 0 0 0 0 0 true (ur d) [] [] [] [] [] [] [] .nilFunc .nilFunc .nilFunc .nilFunc) ⟨Sound.enter k1 ?_, Sound.enter k2 ?_, bT (by simp; omega), trivial⟩) ?_ (ur_nm _ _)) (by simp)⟩
    · unfold T72
      repeat (first | exact rfl | refine ⟨_, _, rfl, ?_, ?_⟩ | exact .inr ⟨rfl, rfl⟩ | exact .inl ⟨rfl, rfl⟩ | exact see_same _)
    · unfold T72
      repeat (first | exact rfl | refine ⟨_, _, rfl, ?_, ?_⟩ | exact .inr ⟨rfl, rfl⟩ | exact .inl ⟨rfl, rfl⟩ | exact see_same _)
    · unfold T72
      repeat (first | exact rfl | refine ⟨_, _, rfl, ?_, ?_⟩ | exact .inr ⟨rfl, rfl⟩ | exact .inl ⟨rfl, rfl⟩ | exact see_same _)
  | succ m ih =>
    intro i j d h hi hij hj hd
    have h1 := scanUp_ge (fun x => ltInt x d[a]!) d j i
    have h2 := scanDown_le (fun x => !ltInt x d[a]!) d (scanUp (fun x => ltInt x d[a]!) d j i) j
    have h3 := su_bd (fun x => ltInt x d[a]!) d j _ i (Nat.le_refl _) hij
    rw [partLoop_eq]
    have k1 := pC_loop hn ha hj hd _ i (Nat.le_refl _) (by omega) none none []
    have k2 := pD_loop hn ha (show 1 ≤ scanUp (fun x => ltInt x d[a]!) d j i by omega) hd j hj none none ([0] ++ [])
    by_cases hg : scanUp (fun x => ltInt x d[a]!) d j i > scanDown (fun x => !ltInt x d[a]!) d (scanUp (fun x => ltInt x d[a]!) d j i) j
    · rw [if_pos hg]
      refine ⟨scanUp (fun x => ltInt x d[a]!) d j i, SoundL.stop (SLA (runX_sound mixed none_sound (pt_out n a 0 i j (scanDown (fun x => !ltInt x d[a]!) d (scanUp (fun x => ltInt x d[a]!) d j i) j) (scanUp (fun x => ltInt x d[a]!) d j i) 0 0 0 0 0 0 0 0 0 0 0 true (ur d) [] [] [] [] [] [] [] .nilFunc .nilFunc .nilFunc .nilFunc) ⟨Sound.enter k1 ?_, Sound.enter k2 ?_, bT (by simp; omega), trivial⟩) ?_ (ur_nm _ _)) (by simp)⟩
      · unfold T72
        repeat (first | exact rfl | refine ⟨_, _, rfl, ?_, ?_⟩ | exact .inr ⟨rfl, rfl⟩ | exact .inl ⟨rfl, rfl⟩ | exact see_same _)
      · unfold T72
        repeat (first | exact rfl | refine ⟨_, _, rfl, ?_, ?_⟩ | exact .inr ⟨rfl, rfl⟩ | exact .inl ⟨rfl, rfl⟩ | exact see_same _)
      · unfold T72
        repeat (first | exact rfl | refine ⟨_, _, rfl, ?_, ?_⟩ | exact .inr ⟨rfl, rfl⟩ | exact .inl ⟨rfl, rfl⟩ | exact see_same _)
    · rw [if_neg hg]
      generalize hi2 : scanUp (fun x => ltInt x d[a]!) d j i = i2 at h1 h2 h3 k1 k2 hg ⊢
      generalize hj2 : scanDown (fun x => !ltInt x d[a]!) d i2 j = j2 at h2 k2 hg ⊢
      obtain ⟨q, hq⟩ := ih (i2 + 1) (j2 - 1) (swp d i2 j2) (by omega) (by omega) (by omega) (by omega) (by simp [hd])
      refine ⟨q, SoundL.next (SLA (runX_sound mixed none_sound (pt_go n a 0 i j j2 i2 0 0 0 0 0 d[i2]! d[j2]! 0 0 0 0 true (ur d) (ur (d.setIfInBounds i2 d[j2]!)) (ur (swp d i2 j2)) [] [] [] [] [] .nilFunc .nilFunc .nilFunc .nilFunc)
        ⟨Sound.enter k1 ?_, Sound.enter k2 ?_, bF (by simp; omega), idxP (by omega), ldP (by omega), idxP (by omega), ldP (by omega), idxP (by omega), stoP (by omega), idxP (by omega), stoP (by simp; omega), wN _ (by first | rfl | (simp only [Int.ofNat_eq_natCast]; omega)) (by omega), wN _ (by first | rfl | (simp only [Int.ofNat_eq_natCast]; omega)) (by omega), trivial⟩) ?_ (ur_nm _ _)) hq⟩
      · unfold T72
        repeat (first | exact rfl | refine ⟨_, _, rfl, ?_, ?_⟩ | exact .inr ⟨rfl, rfl⟩ | exact .inl ⟨rfl, rfl⟩ | exact see_same _)
      · unfold T72
        repeat (first | exact rfl | refine ⟨_, _, rfl, ?_, ?_⟩ | exact .inr ⟨rfl, rfl⟩ | exact .inl ⟨rfl, rfl⟩ | exact see_same _)
      · unfold T72
        repeat (first | exact rfl | refine ⟨_, _, rfl, ?_, ?_⟩ | exact .inr ⟨rfl, rfl⟩ | exact .inl ⟨rfl, rfl⟩ | exact see_same _)
theorem pt_all {a b p : Nat} {d : Array Int} (hd : n = d.size) (hb : b ≤ n) (ha : a < b) (hp : p < b) : CallP 72 [.osl 0 0 n 1, .int .i64 (Int.ofNat a), .int .i64 (Int.ofNat b), .int .i64 (Int.ofNat p)] d (partition ltInt d a b p).2.2 (.tuple [.int .i64 (Int.ofNat (partition ltInt d a b p).1), .bool (partition ltInt d a b p).2.1]) := by
  intro esc esc' W
  obtain ⟨d1, hd1⟩ : ∃ d1, d1 = swp d a p := ⟨_, rfl⟩
  have hs1 : n = d1.size := by rw [hd1]; simp [hd]
  have h1 := scanUp_ge (fun x => ltInt x d1[a]!) d1 (b - 1) (a + 1)
  have h3 := su_bd (fun x => ltInt x d1[a]!) d1 (b - 1) _ (a + 1) (Nat.le_refl _) (by omega)
  have h2 := scanDown_le (fun x => !ltInt x d1[a]!) d1 (scanUp (fun x => ltInt x d1[a]!) d1 (b - 1) (a + 1)) (b - 1)
  have k1 := pA_loop hn (a := a) (j := b - 1) (by omega) (by omega) hs1 _ (a + 1) (Nat.le_refl _) (by omega) none none ([0] ++ ([0] ++ []))
  have k2 := pB_loop hn (a := a) (by omega) (show 1 ≤ scanUp (fun x => ltInt x d1[a]!) d1 (b - 1) (a + 1) by omega) hs1 (b - 1) (by omega) none none ([0] ++ ([0] ++ ([0] ++ [])))
  have e0 : partition ltInt d a b p = if scanUp (fun x => ltInt x d1[a]!) d1 (b - 1) (a + 1) > scanDown (fun x => !ltInt x d1[a]!) d1 (scanUp (fun x => ltInt x d1[a]!) d1 (b - 1) (a + 1)) (b - 1) then (scanDown (fun x => !ltInt x d1[a]!) d1 (scanUp (fun x => ltInt x d1[a]!) d1 (b - 1) (a + 1)) (b - 1), true, swp d1 (scanDown (fun x => !ltInt x d1[a]!) d1 (scanUp (fun x => ltInt x d1[a]!) d1 (b - 1) (a + 1)) (b - 1)) a) else
      ((partLoop ltInt a (scanUp (fun x => ltInt x d1[a]!) d1 (b - 1) (a + 1) + 1) (scanDown (fun x => !ltInt x d1[a]!) d1 (scanUp (fun x => ltInt x d1[a]!) d1 (b - 1) (a + 1)) (b - 1) - 1) (swp d1 (scanUp (fun x => ltInt x d1[a]!) d1 (b - 1) (a + 1)) (scanDown (fun x => !ltInt x d1[a]!) d1 (scanUp (fun x => ltInt x d1[a]!) d1 (b - 1) (a + 1)) (b - 1)))).1, false,
        swp (partLoop ltInt a (scanUp (fun x => ltInt x d1[a]!) d1 (b - 1) (a + 1) + 1) (scanDown (fun x => !ltInt x d1[a]!) d1 (scanUp (fun x => ltInt x d1[a]!) d1 (b - 1) (a + 1)) (b - 1) - 1) (swp d1 (scanUp (fun x => ltInt x d1[a]!) d1 (b - 1) (a + 1)) (scanDown (fun x => !ltInt x d1[a]!) d1 (scanUp (fun x => ltInt x d1[a]!) d1 (b - 1) (a + 1)) (b - 1)))).2
          (partLoop ltInt a (scanUp (fun x => ltInt x d1[a]!) d1 (b - 1) (a + 1) + 1) (scanDown (fun x => !ltInt x d1[a]!) d1 (scanUp (fun x => ltInt x d1[a]!) d1 (b - 1) (a + 1)) (b - 1) - 1) (swp d1 (scanUp (fun x => ltInt x d1[a]!) d1 (b - 1) (a + 1)) (scanDown (fun x => !ltInt x d1[a]!) d1 (scanUp (fun x => ltInt x d1[a]!) d1 (b - 1) (a + 1)) (b - 1)))).1 a) := by
    rw [hd1]; rfl
  rw [e0]
  generalize hi2 : scanUp (fun x => ltInt x d1[a]!) d1 (b - 1) (a + 1) = i2 at h1 h2 h3 k1 k2 ⊢
  generalize hj2 : scanDown (fun x => !ltInt x d1[a]!) d1 i2 (b - 1) = j2 at h2 k2 ⊢
  have q1 : d.setIfInBounds a d[p]! = d.setIfInBounds a d[p]! := rfl
  by_cases hg : i2 > j2
  · rw [if_pos hg]
    refine CSA (runX_sound mixed none_sound (pt_call1 n a b 0 (b-1) j2 i2 p 0 0 0 0 d[a]! d[p]! d1[j2]! d1[a]! 0 0 true (ur d) (ur (d.setIfInBounds a d[p]!)) (ur d1) (ur (d1.setIfInBounds j2 d1[a]!)) (ur (swp d1 j2 a)) [] [] [] .nilFunc .nilFunc .nilFunc .nilFunc)
      ⟨idxP (by omega), ldP (by omega), idxP (by omega), ldP (by omega), idxP (by omega), stoP (by omega), idxP (by omega), hd1 ▸ stoP (by simp; omega), wN _ (by first | rfl | (simp only [Int.ofNat_eq_natCast]; omega)) (by omega), wN _ (by first | rfl | (simp only [Int.ofNat_eq_natCast]; omega)) (by omega), Sound.enter k1 ?_, Sound.enter k2 ?_, bT (by simp; omega), idxP (by omega), ldP (by omega), idxP (by omega), ldP (by omega), idxP (by omega), stoP (by omega), idxP (by omega), stoP (by simp; omega), trivial⟩) rfl (ur_nm _ _) esc esc' W
    · unfold T72
      repeat (first | exact rfl | refine ⟨_, _, rfl, ?_, ?_⟩ | exact .inr ⟨rfl, rfl⟩ | exact .inl ⟨rfl, rfl⟩ | exact see_same _)
    · unfold T72
      repeat (first | exact rfl | refine ⟨_, _, rfl, ?_, ?_⟩ | exact .inr ⟨rfl, rfl⟩ | exact .inl ⟨rfl, rfl⟩ | exact see_same _)
  · rw [if_neg hg]
    obtain ⟨q, hq⟩ := pt_loop hn (a := a) (by omega) _ (i2 + 1) (j2 - 1) (swp d1 i2 j2) (Nat.le_refl _) (by omega) (by omega) (by omega) (by simp [hs1])
    have hsz : n = (partLoop ltInt a (i2 + 1) (j2 - 1) (swp d1 i2 j2)).2.size := by rw [pl_sz a _ _ _ _ (Nat.le_refl _)]; simp [hs1]
    have hmn : (partLoop ltInt a (i2 + 1) (j2 - 1) (swp d1 i2 j2)).1 < n := by
      have := pl_le a _ (i2 + 1) (j2 - 1) (swp d1 i2 j2) (Nat.le_refl _)
      omega
    generalize partLoop ltInt a (i2 + 1) (j2 - 1) (swp d1 i2 j2) = r at hq hsz hmn ⊢
    have h := hq none none ([0] ++ ([0] ++ ([0] ++ ([0] ++ ([0] ++ ([0] ++ []))))))
    refine CSA (runX_sound mixed none_sound (pt_call2 n a b 0 (b-1) j2 i2 p q r.1 0 0 d[a]! d[p]! d1[i2]! d1[j2]! r.2[r.1]! r.2[a]! true (ur d) (ur (d.setIfInBounds a d[p]!)) (ur d1) (ur (d1.setIfInBounds i2 d1[j2]!)) (ur (swp d1 i2 j2)) (ur r.2) (ur (r.2.setIfInBounds r.1 r.2[a]!)) (ur (swp r.2 r.1 a)) .nilFunc .nilFunc .nilFunc .nilFunc)
      ⟨idxP (by omega), ldP (by omega), idxP (by omega), ldP (by omega), idxP (by omega), stoP (by omega), idxP (by omega), hd1 ▸ stoP (by simp; omega), wN _ (by first | rfl | (simp only [Int.ofNat_eq_natCast]; omega)) (by omega), wN _ (by first | rfl | (simp only [Int.ofNat_eq_natCast]; omega)) (by omega), Sound.enter k1 ?_, Sound.enter k2 ?_, bF (by simp; omega), idxP (by omega), ldP (by omega), idxP (by omega), ldP (by omega), idxP (by omega), stoP (by omega), idxP (by omega), stoP (by simp; omega), wN _ (by first | rfl | (simp only [Int.ofNat_eq_natCast]; omega)) (by omega), wN _ (by first | rfl | (simp only [Int.ofNat_eq_natCast]; omega)) (by omega), Sound.enter h ?_, idxP (by omega), ldP (by omega), idxP (by omega), ldP (by omega), idxP (by omega), stoP (by omega), idxP (by omega), stoP (by simp; omega), trivial⟩) rfl (ur_nm _ _) esc esc' W
    · unfold T72
      repeat (first | exact rfl | refine ⟨_, _, rfl, ?_, ?_⟩ | exact .inr ⟨rfl, rfl⟩ | exact .inl ⟨rfl, rfl⟩ | exact see_same _)
    · unfold T72
      repeat (first | exact rfl | refine ⟨_, _, rfl, ?_, ?_⟩ | exact .inr ⟨rfl, rfl⟩ | exact .inl ⟨rfl, rfl⟩ | exact see_same _)
    · unfold T72
      repeat (first | exact rfl | refine ⟨_, _, rfl, ?_, ?_⟩ | exact .inr ⟨rfl, rfl⟩ | exact .inl ⟨rfl, rfl⟩ | exact see_same _)
end
end Go.Proofs.Ythooafgfpnedhaa.specsDo.pq
namespace Go.Proofs.Ythooafgfpnedhaa.specsDo.pq
open Go Go.Mini Go.Sort
/-! ### partialInsertionSort -/
theorem ss_bd (d : Array Int) (b : Nat) : ∀ (m i : Nat), b - i ≤ m → i ≤ b → i ≤ scanSorted ltInt d b i ∧ scanSorted ltInt d b i ≤ b := by
  intro m
  induction m with
  | zero =>
    intro i h hi
    rw [scanSorted, if_neg (by simp; omega)]
    exact ⟨Nat.le_refl _, hi⟩
  | succ m ih =>
    intro i h hi
    rw [scanSorted]
    split
    · rename_i h2
      simp at h2
      have := ih (i + 1) (by omega) (by omega)
      omega
    · exact ⟨Nat.le_refl _, hi⟩
theorem shd_sz : ∀ (j : Nat) (d : Array Int), (shiftDown ltInt j d).size = d.size
  | 0, d => rfl
  | j + 1, d => by
    unfold shiftDown
    split
    · rfl
    · rw [shd_sz j]; simp
theorem shu_sz (b : Nat) : ∀ (m j : Nat) (d : Array Int), b - j ≤ m → (shiftUp ltInt b j d).size = d.size := by
  intro m
  induction m with
  | zero => intro j d h; rw [shiftUp, if_neg (by omega)]
  | succ m ih =>
    intro j d h
    rw [shiftUp]
    split
    · split
      · rfl
      · rw [ih _ _ (by omega)]; simp
    · rfl
theorem fd_sz (a i : Nat) (d : Array Int) : (fixDown ltInt a i d).size = d.size := by
  unfold fixDown
  split
  · exact shd_sz _ _
  · rfl
theorem fu_sz (b i : Nat) (d : Array Int) : (fixUp ltInt b i d).size = d.size := by
  unfold fixUp
  split
  · exact shu_sz _ _ _ _ (Nat.le_refl _)
  · rfl
section
variable {n a b k : Nat} (hn : n < 1000000) (hb : b ≤ n)
include hn hb
theorem ss_loop {d : Array Int} (hd : n = d.size) : ∀ (m i : Nat), b - i ≤ m → 1 ≤ i → i < 1000001 →
    SoundL Try.prog [0] (.loop (loopAt Try.prog 69 1)) (T69 n a b uu i k uu uu) (bsA (ur d)) 1 1 (.exit 2) (T69 n a b uu (scanSorted ltInt d b i) k uu uu) (bsA (ur d)) := by
  intro m
  induction m with
  | zero =>
    intro i h h1 hi
    rw [scanSorted, if_neg (by simp; omega)]
    refine SoundL.stop (SLA (runX_sound mixed none_sound (ss_out n a b i 0 0 0 0 0 0 0 k 0 0 0 0 0 0 true (ur d) [] [] [] [] [] [] [] .nilFunc .nilFunc .nilFunc .nilFunc) ⟨bF (by simp; omega), trivial⟩) ?_ (ur_nm _ _)) (by simp)
    unfold T69
    repeat (first | exact rfl | refine ⟨_, _, rfl, ?_, ?_⟩ | exact .inr ⟨rfl, rfl⟩ | exact .inl ⟨rfl, rfl⟩ | exact see_same _)
  | succ m ih =>
    intro i h h1 hi
    rw [scanSorted]
    by_cases hij : i < b
    · cases hl : ltInt d[i]! d[i - 1]! with
      | true =>
        rw [if_neg (by simp [hl])]
        refine SoundL.stop (SLA (runX_sound mixed none_sound (ss_stop n a b i 0 0 0 0 0 0 0 k d[i]! d[i-1]! 0 0 0 0 true (ur d) [] [] [] [] [] [] [] .nilFunc .nilFunc .nilFunc .nilFunc) ⟨bT (by simp; omega), idxP (by omega), ldP (by omega), wN _ (by first | rfl | (simp only [Int.ofNat_eq_natCast]; omega)) (by omega), idxP (by omega), ldP (by omega), lessB hl, trivial⟩) ?_ (ur_nm _ _)) (by simp)
        unfold T69
        repeat (first | exact rfl | refine ⟨_, _, rfl, ?_, ?_⟩ | exact .inr ⟨rfl, rfl⟩ | exact .inl ⟨rfl, rfl⟩ | exact see_same _)
      | false =>
        rw [if_pos (by simp [hl]; omega)]
        refine SoundL.next (SLA (runX_sound mixed none_sound (ss_go n a b i 0 0 0 0 0 0 0 k d[i]! d[i-1]! 0 0 0 0 true (ur d) [] [] [] [] [] [] [] .nilFunc .nilFunc .nilFunc .nilFunc) ⟨bT (by simp; omega), idxP (by omega), ldP (by omega), wN _ (by first | rfl | (simp only [Int.ofNat_eq_natCast]; omega)) (by omega), idxP (by omega), ldP (by omega), lessB hl, wN _ (by first | rfl | (simp only [Int.ofNat_eq_natCast]; omega)) (by omega), trivial⟩) ?_ (ur_nm _ _)) (ih (i + 1) (by omega) (by omega) (by omega))
        unfold T69
        repeat (first | exact rfl | refine ⟨_, _, rfl, ?_, ?_⟩ | exact .inr ⟨rfl, rfl⟩ | exact .inl ⟨rfl, rfl⟩ | exact see_same _)
    · rw [if_neg (by simp; omega)]
      refine SoundL.stop (SLA (runX_sound mixed none_sound (ss_out n a b i 0 0 0 0 0 0 0 k 0 0 0 0 0 0 true (ur d) [] [] [] [] [] [] [] .nilFunc .nilFunc .nilFunc .nilFunc) ⟨bF (by simp; omega), trivial⟩) ?_ (ur_nm _ _)) (by simp)
      unfold T69
      repeat (first | exact rfl | refine ⟨_, _, rfl, ?_, ?_⟩ | exact .inr ⟨rfl, rfl⟩ | exact .inl ⟨rfl, rfl⟩ | exact see_same _)
omit hb in
theorem sh_loop {i : Nat} : ∀ (j : Nat) (d : Array Int), j < n → n = d.size →
    SoundL Try.prog [0] (.loop (loopAt Try.prog 69 2)) (T69 n a b uu i k (.int .i64 (Int.ofNat j)) uu) (bsA (ur d)) 1 1 (.exit 4) (T69 n a b uu i k uu uu) (bsA (ur (shiftDown ltInt j d))) := by
  intro j
  induction j with
  | zero =>
    intro d hj hd
    refine SoundL.stop (SLA (runX_sound mixed none_sound (sh_out n a b i 0 0 0 0 0 0 0 k 0 0 0 0 0 0 true (ur d) [] [] [] [] [] [] [] .nilFunc .nilFunc .nilFunc .nilFunc) ⟨bF (by simp), trivial⟩) ?_ (ur_nm _ _)) (by simp)
    unfold T69
    repeat (first | exact rfl | refine ⟨_, _, rfl, ?_, ?_⟩ | exact .inr ⟨rfl, rfl⟩ | exact .inl ⟨rfl, rfl⟩ | exact see_same _)
  | succ j ih =>
    intro d hj hd
    rw [shiftDown]
    cases hl : ltInt d[j + 1]! d[j]! with
    | false =>
      rw [if_pos (by simp)]
      refine SoundL.stop (SLA (runX_sound mixed none_sound (sh_stop n a b i (j+1) 0 0 0 0 0 0 k d[j+1]! d[j]! 0 0 0 0 true (ur d) [] [] [] [] [] [] [] .nilFunc .nilFunc .nilFunc .nilFunc) ⟨bT (by simp; omega), idxP (by omega), ldP (by omega), wN _ (by first | rfl | (simp only [Int.ofNat_eq_natCast]; omega)) (by omega), idxP (by omega), ldP (by omega), lessB hl, trivial⟩) ?_ (ur_nm _ _)) (by simp)
      unfold T69
      repeat (first | exact rfl | refine ⟨_, _, rfl, ?_, ?_⟩ | exact .inr ⟨rfl, rfl⟩ | exact .inl ⟨rfl, rfl⟩ | exact see_same _)
    | true =>
      rw [if_neg (by simp)]
      refine SoundL.next (SLA (runX_sound mixed none_sound (sh_go n a b i (j+1) 0 0 0 0 0 0 k d[j+1]! d[j]! 0 0 0 0 true (ur d) (ur (d.setIfInBounds (j+1) d[j]!)) (ur (swp d (j+1) j)) [] [] [] [] [] .nilFunc .nilFunc .nilFunc .nilFunc)
        ⟨bT (by simp; omega), idxP (by omega), ldP (by omega), wN _ (by first | rfl | (simp only [Int.ofNat_eq_natCast]; omega)) (by omega), idxP (by omega), ldP (by omega), lessB hl, wN _ (by first | rfl | (simp only [Int.ofNat_eq_natCast]; omega)) (by omega), wN _ (by first | rfl | (simp only [Int.ofNat_eq_natCast]; omega)) (by omega), idxP (by omega), ldP (by omega), idxP (by omega), ldP (by omega), idxP (by omega), stoP (by omega), idxP (by omega), stoP (by simp; omega), wN _ (by first | rfl | (simp only [Int.ofNat_eq_natCast]; omega)) (by omega), trivial⟩) ?_ (ur_nm _ _)) (ih _ (by omega) (by simp [hd]))
      unfold T69
      repeat (first | exact rfl | refine ⟨_, _, rfl, ?_, ?_⟩ | exact .inr ⟨rfl, rfl⟩ | exact .inl ⟨rfl, rfl⟩ | exact see_same _)
theorem su_loop {i : Nat} : ∀ (m j : Nat) (d : Array Int), b - j ≤ m → 1 ≤ j → j < 1000001 → n = d.size →
    SoundL Try.prog [0] (.loop (loopAt Try.prog 69 3)) (T69 n a b uu i k uu (.int .i64 (Int.ofNat j))) (bsA (ur d)) 1 1 (.exit 6) (T69 n a b uu i k uu uu) (bsA (ur (shiftUp ltInt b j d))) := by
  intro m
  induction m with
  | zero =>
    intro j d h h1 hj hd
    rw [shiftUp, if_neg (by omega)]
    refine SoundL.stop (SLA (runX_sound mixed none_sound (su_out n a b i j 0 0 0 0 0 0 k 0 0 0 0 0 0 true (ur d) [] [] [] [] [] [] [] .nilFunc .nilFunc .nilFunc .nilFunc) ⟨bF (by simp; omega), trivial⟩) ?_ (ur_nm _ _)) (by simp)
    unfold T69
    repeat (first | exact rfl | refine ⟨_, _, rfl, ?_, ?_⟩ | exact .inr ⟨rfl, rfl⟩ | exact .inl ⟨rfl, rfl⟩ | exact see_same _)
  | succ m ih =>
    intro j d h h1 hj hd
    rw [shiftUp]
    by_cases hjb : j < b
    · rw [if_pos hjb]
      cases hl : ltInt d[j]! d[j - 1]! with
      | false =>
        rw [if_pos (by simp)]
        refine SoundL.stop (SLA (runX_sound mixed none_sound (su_stop n a b i j 0 0 0 0 0 0 k d[j]! d[j-1]! 0 0 0 0 true (ur d) [] [] [] [] [] [] [] .nilFunc .nilFunc .nilFunc .nilFunc) ⟨bT (by simp; omega), idxP (by omega), ldP (by omega), wN _ (by first | rfl | (simp only [Int.ofNat_eq_natCast]; omega)) (by omega), idxP (by omega), ldP (by omega), lessB hl, trivial⟩) ?_ (ur_nm _ _)) (by simp)
        unfold T69
        repeat (first | exact rfl | refine ⟨_, _, rfl, ?_, ?_⟩ | exact .inr ⟨rfl, rfl⟩ | exact .inl ⟨rfl, rfl⟩ | exact see_same _)
      | true =>
        rw [if_neg (by simp)]
        refine SoundL.next (SLA (runX_sound mixed none_sound (su_go n a b i j 0 0 0 0 0 0 k d[j]! d[j-1]! 0 0 0 0 true (ur d) (ur (d.setIfInBounds j d[j-1]!)) (ur (swp d j (j-1))) [] [] [] [] [] .nilFunc .nilFunc .nilFunc .nilFunc)
          ⟨bT (by simp; omega), idxP (by omega), ldP (by omega), wN _ (by first | rfl | (simp only [Int.ofNat_eq_natCast]; omega)) (by omega), idxP (by omega), ldP (by omega), lessB hl, wN _ (by first | rfl | (simp only [Int.ofNat_eq_natCast]; omega)) (by omega), wN _ (by first | rfl | (simp only [Int.ofNat_eq_natCast]; omega)) (by omega), idxP (by omega), ldP (by omega), idxP (by omega), ldP (by omega), idxP (by omega), stoP (by omega), idxP (by omega), stoP (by simp; omega), wN _ (by first | rfl | (simp only [Int.ofNat_eq_natCast]; omega)) (by omega), trivial⟩) ?_ (ur_nm _ _)) (ih _ _ (by omega) (by omega) (by omega) (by simp [hd]))
        unfold T69
        repeat (first | exact rfl | refine ⟨_, _, rfl, ?_, ?_⟩ | exact .inr ⟨rfl, rfl⟩ | exact .inl ⟨rfl, rfl⟩ | exact see_same _)
    · rw [if_neg hjb]
      refine SoundL.stop (SLA (runX_sound mixed none_sound (su_out n a b i j 0 0 0 0 0 0 k 0 0 0 0 0 0 true (ur d) [] [] [] [] [] [] [] .nilFunc .nilFunc .nilFunc .nilFunc) ⟨bF (by simp; omega), trivial⟩) ?_ (ur_nm _ _)) (by simp)
      unfold T69
      repeat (first | exact rfl | refine ⟨_, _, rfl, ?_, ?_⟩ | exact .inr ⟨rfl, rfl⟩ | exact .inl ⟨rfl, rfl⟩ | exact see_same _)
end
section
variable {n a b : Nat} (hn : n < 1000000) (hb : b ≤ n)
include hn hb
theorem pi_loop : ∀ (s k i : Nat) (d : Array Int), k + s = 5 → a < i → i ≤ b → n = d.size →
    ∃ g q, (SoundL Try.prog [0] (.loop (loopAt Try.prog 69 0)) (T69 n a b uu i k uu uu) (bsA (ur d)) 1 1 (.exit 0) (T69 n a b uu g q uu uu) (bsA (ur (partialIns ltInt a b s i d).1)) ∧ (partialIns ltInt a b s i d).2 = false) ∨
      SoundL Try.prog [0] (.loop (loopAt Try.prog 69 0)) (T69 n a b uu i k uu uu) (bsA (ur d)) 1 1 .ret (T69 n a b (.bool (partialIns ltInt a b s i d).2) g q uu uu) (bsA (ur (partialIns ltInt a b s i d).1)) := by
  intro s
  induction s with
  | zero =>
    intro k i d hk hai hib hd
    obtain rfl : k = 5 := by omega
    refine ⟨i, 5, .inl ⟨SoundL.stop (SLA (runX_sound mixed none_sound (pi_end n a b i 0 0 0 0 0 0 0 5 0 0 0 0 0 0 true (ur d) [] [] [] [] [] [] [] .nilFunc .nilFunc .nilFunc .nilFunc) ⟨bF (by simp), trivial⟩) ?_ (ur_nm _ _)) (by simp), rfl⟩⟩
    unfold T69
    repeat (first | exact rfl | refine ⟨_, _, rfl, ?_, ?_⟩ | exact .inr ⟨rfl, rfl⟩ | exact .inl ⟨rfl, rfl⟩ | exact see_same _)
  | succ s ih =>
    intro k i d hk hai hib hd
    rw [partialIns_succ]
    have hbd := ss_bd d b _ i (Nat.le_refl _) hib
    have k1 := ss_loop hn hb (a := a) (k := k) hd _ i (Nat.le_refl _) (by omega) (by omega) none none []
    generalize hg : scanSorted ltInt d b i = g at hbd k1 ⊢
    by_cases hgb : g = b
    · rw [if_pos hgb]
      refine ⟨g, k, .inr (SoundL.stop (SLA (runX_sound mixed none_sound (pi_yes n a b i 0 0 g 0 0 0 0 k 0 0 0 0 0 0 true (ur d) [] [] [] [] [] [] [] .nilFunc .nilFunc .nilFunc .nilFunc) ⟨bT (by simp; omega), Sound.enter k1 ?_, ?_, trivial⟩) ?_ (ur_nm _ _)) (by simp))⟩
      · unfold T69
        repeat (first | exact rfl | refine ⟨_, _, rfl, ?_, ?_⟩ | exact .inr ⟨rfl, rfl⟩ | exact .inl ⟨rfl, rfl⟩ | exact see_same _)
      · simp [Qst.ok, hgb]
      · unfold T69
        repeat (first | exact rfl | refine ⟨_, _, rfl, ?_, ?_⟩ | exact .inr ⟨rfl, rfl⟩ | exact .inl ⟨rfl, rfl⟩ | exact see_same _)
    rw [if_neg hgb]
    by_cases h50 : b - a < 50
    · rw [if_pos h50]
      refine ⟨g, k, .inr (SoundL.stop (SLA (runX_sound mixed none_sound (pi_no n a b i 0 0 g 0 0 0 0 k 0 0 0 0 0 0 true (ur d) [] [] [] [] [] [] [] .nilFunc .nilFunc .nilFunc .nilFunc) ⟨bT (by simp; omega), Sound.enter k1 ?_, ?_, wN _ (by first | rfl | (simp only [Int.ofNat_eq_natCast]; omega)) (by omega), bT (by simp; omega), trivial⟩) ?_ (ur_nm _ _)) (by simp))⟩
      · unfold T69
        repeat (first | exact rfl | refine ⟨_, _, rfl, ?_, ?_⟩ | exact .inr ⟨rfl, rfl⟩ | exact .inl ⟨rfl, rfl⟩ | exact see_same _)
      · simp [Qst.ok]; omega
      · unfold T69
        repeat (first | exact rfl | refine ⟨_, _, rfl, ?_, ?_⟩ | exact .inr ⟨rfl, rfl⟩ | exact .inl ⟨rfl, rfl⟩ | exact see_same _)
    rw [if_neg h50]
    obtain ⟨d1, hd1⟩ : ∃ d1, d1 = swp d g (g - 1) := ⟨_, rfl⟩
    have hs1 : n = d1.size := by rw [hd1]; simp [hd]
    rw [← hd1]
    have hs2 : n = (fixDown ltInt a g d1).size := by rw [fd_sz]; exact hs1
    have hs3 : n = (fixUp ltInt b g (fixDown ltInt a g d1)).size := by rw [fu_sz]; exact hs2
    obtain ⟨g', q', hq⟩ := ih (k + 1) g (fixUp ltInt b g (fixDown ltInt a g d1)) (by omega) (by omega) (by omega) hs3
    have eqq : (Qst.val (some (AV.bool (Int.ofNat g == Int.ofNat b))) (AV.bool false)).ok Try.prog := by simp [Qst.ok]; omega
    have step : SoundL Try.prog [0] (loopAt Try.prog 69 0) (T69 n a b uu i k uu uu) (bsA (ur d)) 1 1 .normal (T69 n a b uu g (k + 1) uu uu) (bsA (ur (fixUp ltInt b g (fixDown ltInt a g d1)))) := by
      by_cases w1 : g - a ≥ 2
      · have e1 : fixDown ltInt a g d1 = shiftDown ltInt (g - 1) d1 := if_pos w1
        rw [e1] at hs2 ⊢
        have k2 := sh_loop hn (a := a) (b := b) (k := k) (i := g) (g - 1) d1 (by omega) hs1 none none ([0] ++ ([0] ++ ([0] ++ [])))
        by_cases w2 : b - g ≥ 2
        · have e2 : fixUp ltInt b g (shiftDown ltInt (g - 1) d1) = shiftUp ltInt b (g + 1) (shiftDown ltInt (g - 1) d1) := if_pos w2
          rw [e2]
          have k3 := su_loop hn hb (a := a) (k := k) (i := g) _ (g + 1) (shiftDown ltInt (g - 1) d1) (Nat.le_refl _) (by omega) (by omega) hs2 none none ([0] ++ ([0] ++ ([0] ++ ([0] ++ []))))
          refine SLA (runX_sound mixed none_sound (pi_go11 n a b i 0 0 g 0 0 0 0 k d[g]! d[g-1]! 0 0 0 0 true (ur d) (ur (d.setIfInBounds g d[g-1]!)) (ur d1) (ur (shiftDown ltInt (g - 1) d1)) (ur (shiftUp ltInt b (g + 1) (shiftDown ltInt (g - 1) d1))) [] [] [] .nilFunc .nilFunc .nilFunc .nilFunc)
            ⟨bT (by simp; omega), Sound.enter k1 ?_, eqq, wN _ (by first | rfl | (simp only [Int.ofNat_eq_natCast]; omega)) (by omega), bF (by simp; omega), wN _ (by first | rfl | (simp only [Int.ofNat_eq_natCast]; omega)) (by omega), wN _ (by first | rfl | (simp only [Int.ofNat_eq_natCast]; omega)) (by omega), idxP (by omega), ldP (by omega), idxP (by omega), ldP (by omega), idxP (by omega), stoP (by omega), idxP (by omega), hd1 ▸ stoP (by simp; omega), wN _ (by first | rfl | (simp only [Int.ofNat_eq_natCast]; omega)) (by omega), bT (by simp; omega), wN _ (by first | rfl | (simp only [Int.ofNat_eq_natCast]; omega)) (by omega), Sound.enter k2 ?_, wN _ (by first | rfl | (simp only [Int.ofNat_eq_natCast]; omega)) (by omega), bT (by simp; omega), wN _ (by first | rfl | (simp only [Int.ofNat_eq_natCast]; omega)) (by omega), Sound.enter k3 ?_, wN _ (by first | rfl | (simp only [Int.ofNat_eq_natCast]; omega)) (by omega), trivial⟩) ?_ (ur_nm _ _) <;> (unfold T69; repeat (first | exact rfl | refine ⟨_, _, rfl, ?_, ?_⟩ | exact .inr ⟨rfl, rfl⟩ | exact .inl ⟨rfl, rfl⟩ | exact see_same _))
        · have e2 : fixUp ltInt b g (shiftDown ltInt (g - 1) d1) = shiftDown ltInt (g - 1) d1 := if_neg w2
          rw [e2]
          refine SLA (runX_sound mixed none_sound (pi_go10 n a b i 0 0 g 0 0 0 0 k d[g]! d[g-1]! 0 0 0 0 true (ur d) (ur (d.setIfInBounds g d[g-1]!)) (ur d1) (ur (shiftDown ltInt (g - 1) d1)) [] [] [] [] .nilFunc .nilFunc .nilFunc .nilFunc)
            ⟨bT (by simp; omega), Sound.enter k1 ?_, eqq, wN _ (by first | rfl | (simp only [Int.ofNat_eq_natCast]; omega)) (by omega), bF (by simp; omega), wN _ (by first | rfl | (simp only [Int.ofNat_eq_natCast]; omega)) (by omega), wN _ (by first | rfl | (simp only [Int.ofNat_eq_natCast]; omega)) (by omega), idxP (by omega), ldP (by omega), idxP (by omega), ldP (by omega), idxP (by omega), stoP (by omega), idxP (by omega), hd1 ▸ stoP (by simp; omega), wN _ (by first | rfl | (simp only [Int.ofNat_eq_natCast]; omega)) (by omega), bT (by simp; omega), wN _ (by first | rfl | (simp only [Int.ofNat_eq_natCast]; omega)) (by omega), Sound.enter k2 ?_, wN _ (by first | rfl | (simp only [Int.ofNat_eq_natCast]; omega)) (by omega), bF (by simp; omega), wN _ (by first | rfl | (simp only [Int.ofNat_eq_natCast]; omega)) (by omega), trivial⟩) ?_ (ur_nm _ _) <;> (unfold T69; repeat (first | exact rfl | refine ⟨_, _, rfl, ?_, ?_⟩ | exact .inr ⟨rfl, rfl⟩ | exact .inl ⟨rfl, rfl⟩ | exact see_same _))
      · have e1 : fixDown ltInt a g d1 = d1 := if_neg w1
        rw [e1] at hs2 ⊢
        by_cases w2 : b - g ≥ 2
        · have e2 : fixUp ltInt b g d1 = shiftUp ltInt b (g + 1) d1 := if_pos w2
          rw [e2]
          have k3 := su_loop hn hb (a := a) (k := k) (i := g) _ (g + 1) d1 (Nat.le_refl _) (by omega) (by omega) hs2 none none ([0] ++ ([0] ++ ([0] ++ [])))
          refine SLA (runX_sound mixed none_sound (pi_go01 n a b i 0 0 g 0 0 0 0 k d[g]! d[g-1]! 0 0 0 0 true (ur d) (ur (d.setIfInBounds g d[g-1]!)) (ur d1) [] (ur (shiftUp ltInt b (g + 1) d1)) [] [] [] .nilFunc .nilFunc .nilFunc .nilFunc)
            ⟨bT (by simp; omega), Sound.enter k1 ?_, eqq, wN _ (by first | rfl | (simp only [Int.ofNat_eq_natCast]; omega)) (by omega), bF (by simp; omega), wN _ (by first | rfl | (simp only [Int.ofNat_eq_natCast]; omega)) (by omega), wN _ (by first | rfl | (simp only [Int.ofNat_eq_natCast]; omega)) (by omega), idxP (by omega), ldP (by omega), idxP (by omega), ldP (by omega), idxP (by omega), stoP (by omega), idxP (by omega), hd1 ▸ stoP (by simp; omega), wN _ (by first | rfl | (simp only [Int.ofNat_eq_natCast]; omega)) (by omega), bF (by simp; omega), wN _ (by first | rfl | (simp only [Int.ofNat_eq_natCast]; omega)) (by omega), bT (by simp; omega), wN _ (by first | rfl | (simp only [Int.ofNat_eq_natCast]; omega)) (by omega), Sound.enter k3 ?_, wN _ (by first | rfl | (simp only [Int.ofNat_eq_natCast]; omega)) (by omega), trivial⟩) ?_ (ur_nm _ _) <;> (unfold T69; repeat (first | exact rfl | refine ⟨_, _, rfl, ?_, ?_⟩ | exact .inr ⟨rfl, rfl⟩ | exact .inl ⟨rfl, rfl⟩ | exact see_same _))
        · have e2 : fixUp ltInt b g d1 = d1 := if_neg w2
          rw [e2]
          refine SLA (runX_sound mixed none_sound (pi_go00 n a b i 0 0 g 0 0 0 0 k d[g]! d[g-1]! 0 0 0 0 true (ur d) (ur (d.setIfInBounds g d[g-1]!)) (ur d1) [] [] [] [] [] .nilFunc .nilFunc .nilFunc .nilFunc)
            ⟨bT (by simp; omega), Sound.enter k1 ?_, eqq, wN _ (by first | rfl | (simp only [Int.ofNat_eq_natCast]; omega)) (by omega), bF (by simp; omega), wN _ (by first | rfl | (simp only [Int.ofNat_eq_natCast]; omega)) (by omega), wN _ (by first | rfl | (simp only [Int.ofNat_eq_natCast]; omega)) (by omega), idxP (by omega), ldP (by omega), idxP (by omega), ldP (by omega), idxP (by omega), stoP (by omega), idxP (by omega), hd1 ▸ stoP (by simp; omega), wN _ (by first | rfl | (simp only [Int.ofNat_eq_natCast]; omega)) (by omega), bF (by simp; omega), wN _ (by first | rfl | (simp only [Int.ofNat_eq_natCast]; omega)) (by omega), bF (by simp; omega), wN _ (by first | rfl | (simp only [Int.ofNat_eq_natCast]; omega)) (by omega), trivial⟩) ?_ (ur_nm _ _) <;> (unfold T69; repeat (first | exact rfl | refine ⟨_, _, rfl, ?_, ?_⟩ | exact .inr ⟨rfl, rfl⟩ | exact .inl ⟨rfl, rfl⟩ | exact see_same _))
    rcases hq with ⟨h1, h2⟩ | h1
    · exact ⟨g', q', .inl ⟨SoundL.next step h1, h2⟩⟩
    · exact ⟨g', q', .inr (SoundL.next step h1)⟩
theorem pi_all (hab : a < b) {d : Array Int} (hd : n = d.size) : CallP 69 [.osl 0 0 n 1, .int .i64 (Int.ofNat a), .int .i64 (Int.ofNat b)] d (partialInsertionSort ltInt d a b).1 (.bool (partialInsertionSort ltInt d a b).2) := by
  intro esc esc' W
  obtain ⟨g, q, hq⟩ := pi_loop hn hb (a := a) 5 0 (a + 1) d rfl (by omega) (by omega) hd
  unfold partialInsertionSort
  rcases hq with ⟨h1, h2⟩ | h1
  · rw [h2]
    refine CSA (runX_sound mixed none_sound (pi_call0 n a b 0 0 0 g 0 0 0 0 q 0 0 0 0 0 0 true (ur d) (ur (partialIns ltInt a b 5 (a + 1) d).1) [] [] [] [] [] [] .nilFunc .nilFunc .nilFunc .nilFunc) ⟨wN _ (by first | rfl | (simp only [Int.ofNat_eq_natCast]; omega)) (by omega), Sound.enter (h1 none none []) ?_, trivial⟩) rfl (ur_nm _ _) esc esc' W
    unfold T69
    repeat (first | exact rfl | refine ⟨_, _, rfl, ?_, ?_⟩ | exact .inr ⟨rfl, rfl⟩ | exact .inl ⟨rfl, rfl⟩ | exact see_same _)
  · refine CSA (runX_sound mixed none_sound (pi_callr n a b 0 0 0 g 0 0 0 0 q 0 0 0 0 0 0 (partialIns ltInt a b 5 (a + 1) d).2 (ur d) (ur (partialIns ltInt a b 5 (a + 1) d).1) [] [] [] [] [] [] .nilFunc .nilFunc .nilFunc .nilFunc) ⟨wN _ (by first | rfl | (simp only [Int.ofNat_eq_natCast]; omega)) (by omega), Sound.enter (h1 none none []) ?_, trivial⟩) rfl (ur_nm _ _) esc esc' W
    unfold T69
    repeat (first | exact rfl | refine ⟨_, _, rfl, ?_, ?_⟩ | exact .inr ⟨rfl, rfl⟩ | exact .inl ⟨rfl, rfl⟩ | exact see_same _)
end
end Go.Proofs.Ythooafgfpnedhaa.specsDo.pq
namespace Go.Proofs.Ythooafgfpnedhaa.specsDo.pq
open Go Go.Mini
def T66 (n a l m i : Nat) : List AV := .osl 0 0 n 1 :: .int .i64 (Int.ofNat a) :: uu :: uu :: uu :: uu :: .int .i64 (Int.ofNat l) :: .ptr 1 0 :: .int .u64 (Int.ofNat m) :: .int .i64 (Int.ofNat i) :: List.replicate 55 uu
end Go.Proofs.Ythooafgfpnedhaa.specsDo.pq
namespace Go.Proofs.Ythooafgfpnedhaa.specsDo.pq
open Go Go.Mini
theorem o2_t (n a b _ _ _ _ _ _ _ _ _ w _ _ _ _ : Nat) (x y _ _ _ _ : Int) (_ : Bool) (D _ _ _ _ : List AV) (_ _ _ _ : AV) : runX Try.prog none_ 80 83 (.call 83 [.osl 0 0 n 1, (iN (a)), (iN (b)), .ptr 1 0] ⟨⟨[(1, .cells false [(iN (w))]), (0, .cells false D)], 2, none, []⟩, 2⟩) [.val 83 1 2 (.ptr 0 (b)), .val 83 1 3 (iW y), .val 83 1 6 (.ptr 0 (a)), .val 83 1 7 (iW x), .call 83 1 8 (.bool true) id, .val 83 2 3 (iN (w + 1))] = some ({ e := .ret, ts := [.tuple [iN b, iN a]], s := ⟨⟨[(1, .cells false [iN (w + 1)]), (0, .cells false D)], 2, none, [1]⟩, 2⟩ }, [], [Qst.idx 30 (.osl 0 0 n 1) (iN b) (.ptr 0 b), Qst.ld 22 ⟨⟨[(1, .cells false [iN w]), (0, .cells false D)], 2, none, []⟩, 2⟩ (.ptr 0 b) (iW y), Qst.idx 30 (.osl 0 0 n 1) (iN a) (.ptr 0 a), Qst.ld 22 ⟨⟨[(1, .cells false [iN w]), (0, .cells false D)], 2, none, []⟩, 2⟩ (.ptr 0 a) (iW x), Qst.snd (Task.call 70 [iW y, iW x] ⟨⟨[(1, .cells false [iN w]), (0, .cells false D)], 2, none, []⟩, 2⟩) { e := .ret, ts := [.bool true], s := ⟨⟨[(1, .cells false [iN w]), (0, .cells false D)], 2, none, []⟩, 2⟩ }, Qst.val (some (.int .i64 (IntKind.i64.wrap (Int.ofNat (w + 1))))) (iN (w + 1))]) := by kernel_rfl
theorem o2_f (n a b _ _ _ _ _ _ _ _ _ w _ _ _ _ : Nat) (x y _ _ _ _ : Int) (_ : Bool) (D _ _ _ _ : List AV) (_ _ _ _ : AV) : runX Try.prog none_ 80 83 (.call 83 [.osl 0 0 n 1, (iN (a)), (iN (b)), .ptr 1 0] ⟨⟨[(1, .cells false [(iN (w))]), (0, .cells false D)], 2, none, []⟩, 2⟩) [.val 83 1 2 (.ptr 0 (b)), .val 83 1 3 (iW y), .val 83 1 6 (.ptr 0 (a)), .val 83 1 7 (iW x), .call 83 1 8 (.bool false) id] = some ({ e := .ret, ts := [.tuple [iN a, iN b]], s := ⟨⟨[(1, .cells false [iN w]), (0, .cells false D)], 2, none, []⟩, 2⟩ }, [], [Qst.idx 30 (.osl 0 0 n 1) (iN b) (.ptr 0 b), Qst.ld 22 ⟨⟨[(1, .cells false [iN w]), (0, .cells false D)], 2, none, []⟩, 2⟩ (.ptr 0 b) (iW y), Qst.idx 30 (.osl 0 0 n 1) (iN a) (.ptr 0 a), Qst.ld 22 ⟨⟨[(1, .cells false [iN w]), (0, .cells false D)], 2, none, []⟩, 2⟩ (.ptr 0 a) (iW x), Qst.snd (Task.call 70 [iW y, iW x] ⟨⟨[(1, .cells false [iN w]), (0, .cells false D)], 2, none, []⟩, 2⟩) { e := .ret, ts := [.bool false], s := ⟨⟨[(1, .cells false [iN w]), (0, .cells false D)], 2, none, []⟩, 2⟩ }]) := by kernel_rfl
theorem md (n a b i j h g _ _ m l k w w1 w2 w3 _ : Nat) (_ _ _ _ _ _ : Int) (_ : Bool) (D _ _ _ _ : List AV) (_ _ _ _ : AV) : runX Try.prog none_ 80 80 (.call 80 [.osl 0 0 n 1, (iN (a)), (iN (b)), (iN (g)), .ptr 1 0] ⟨⟨[(1, .cells false [(iN (w))]), (0, .cells false D)], 2, none, []⟩, 2⟩) [.call 80 1 4 (.tuple [(iN (h)), (iN (i))]) (fun s => s.set 1 (.cells false [(iN (w1))])), .call 80 2 4 (.tuple [(iN (j)), (iN (k))]) (fun s => s.set 1 (.cells false [(iN (w2))])), .call 80 3 4 (.tuple [(iN (l)), (iN (m))]) (fun s => s.set 1 (.cells false [(iN (w3))]))] = some ({ e := .ret, ts := [iN m], s := ⟨⟨[(1, .cells false [iN w3]), (0, .cells false D)], 2, none, [1, 1, 1]⟩, 2⟩ }, [], [Qst.snd (Task.call 83 [.osl 0 0 n 1, iN a, iN b, .ptr 1 0] ⟨⟨[(1, .cells false [iN w]), (0, .cells false D)], 2, none, []⟩, 2⟩) { e := .ret, ts := [.tuple [iN h, iN i]], s := ⟨⟨[(1, .cells false [iN w1]), (0, .cells false D)], 2, none, [1]⟩, 2⟩ }, Qst.snd (Task.call 83 [.osl 0 0 n 1, iN i, iN g, .ptr 1 0] ⟨⟨[(1, .cells false [iN w1]), (0, .cells false D)], 2, none, [1]⟩, 2⟩) { e := .ret, ts := [.tuple [iN j, iN k]], s := ⟨⟨[(1, .cells false [iN w2]), (0, .cells false D)], 2, none, [1, 1]⟩, 2⟩ }, Qst.snd (Task.call 83 [.osl 0 0 n 1, iN h, iN j, .ptr 1 0] ⟨⟨[(1, .cells false [iN w2]), (0, .cells false D)], 2, none, [1, 1]⟩, 2⟩) { e := .ret, ts := [.tuple [iN l, iN m]], s := ⟨⟨[(1, .cells false [iN w3]), (0, .cells false D)], 2, none, [1, 1, 1]⟩, 2⟩ }]) := by kernel_rfl
theorem ma (n a _ _ _ _ _ _ _ m _ _ w w1 _ _ _ : Nat) (_ _ _ _ _ _ : Int) (_ : Bool) (D _ _ _ _ : List AV) (_ _ _ _ : AV) : runX Try.prog none_ 80 79 (.call 79 [.osl 0 0 n 1, (iN (a)), .ptr 1 0] ⟨⟨[(1, .cells false [(iN (w))]), (0, .cells false D)], 2, none, []⟩, 2⟩) [.val 79 1 2 (iN (a - 1)), .val 79 1 5 (iN (a + 1)), .call 79 1 7 (iN (m)) (fun s => s.set 1 (.cells false [(iN (w1))]))] = some ({ e := .ret, ts := [iN m], s := ⟨⟨[(1, .cells false [iN w1]), (0, .cells false D)], 2, none, [1]⟩, 2⟩ }, [], [Qst.val (some (.int .i64 (IntKind.i64.wrap (Int.ofNat a - Int.ofNat 1)))) (iN (a - 1)), Qst.val (some (.int .i64 (IntKind.i64.wrap (Int.ofNat (a + 1))))) (iN (a + 1)), Qst.snd (Task.call 80 [.osl 0 0 n 1, iN (a - 1), iN a, iN (a + 1), .ptr 1 0] ⟨⟨[(1, .cells false [iN w]), (0, .cells false D)], 2, none, []⟩, 2⟩) { e := .ret, ts := [iN m], s := ⟨⟨[(1, .cells false [iN w1]), (0, .cells false D)], 2, none, [1]⟩, 2⟩ }]) := by kernel_rfl
theorem cp0i (n a b _ _ _ _ _ _ m _ _ _ _ _ _ w4 : Nat) (_ _ _ _ _ _ : Int) (_ : Bool) (D _ _ _ _ : List AV) (_ _ _ _ : AV) : runX Try.prog none_ 80 67 (.call 67 [.osl 0 0 n 1, (iN (a)), (iN (b))] ⟨⟨[(0, .cells false D)], 1, none, []⟩, 1⟩) [.val 67 1 2 (iN (b - a)), .val 67 3 2 (.int .i64 (Int.ofNat ((b - a) / 4))), .val 67 3 3 (.int .i64 (Int.ofNat ((b - a) / 4 * 1))), .val 67 3 4 (.int .i64 (Int.ofNat (a + (b - a) / 4 * 1))), .val 67 4 2 (.int .i64 (Int.ofNat ((b - a) / 4))), .val 67 4 3 (.int .i64 (Int.ofNat ((b - a) / 4 * 2))), .val 67 4 4 (.int .i64 (Int.ofNat (a + (b - a) / 4 * 2))), .val 67 5 2 (.int .i64 (Int.ofNat ((b - a) / 4))), .val 67 5 3 (.int .i64 (Int.ofNat ((b - a) / 4 * 3))), .val 67 5 4 (.int .i64 (Int.ofNat (a + (b - a) / 4 * 3))), .val 67 6 1 (.bool true), .val 67 7 1 (.bool false), .call 67 11 4 (iN (m)) (fun s => s.set 1 (.cells false [(iN (w4))])), .val 67 14 0 (.bool true)] = some ({ e := .ret, ts := [.tuple [iN m, iN 1]], s := ⟨⟨[(0, .cells false D)], 1, none, []⟩, 2⟩ }, [], [Qst.val (some (.int .i64 (IntKind.i64.wrap (Int.ofNat b - Int.ofNat a)))) (iN (b - a)), Qst.val (some (.int .i64 (IntKind.i64.wrap (Int.ofNat ((b - a) / 4))))) (.int .i64 (Int.ofNat ((b - a) / 4))), Qst.val (some (.int .i64 (IntKind.i64.wrap (Int.ofNat ((b - a) / 4 * 1))))) (.int .i64 (Int.ofNat ((b - a) / 4 * 1))), Qst.val (some (.int .i64 (IntKind.i64.wrap (Int.ofNat (a + (b - a) / 4 * 1))))) (.int .i64 (Int.ofNat (a + (b - a) / 4 * 1))), Qst.val (some (.int .i64 (IntKind.i64.wrap (Int.ofNat ((b - a) / 4))))) (.int .i64 (Int.ofNat ((b - a) / 4))), Qst.val (some (.int .i64 (IntKind.i64.wrap (Int.ofNat ((b - a) / 4 * 2))))) (.int .i64 (Int.ofNat ((b - a) / 4 * 2))), Qst.val (some (.int .i64 (IntKind.i64.wrap (Int.ofNat (a + (b - a) / 4 * 2))))) (.int .i64 (Int.ofNat (a + (b - a) / 4 * 2))), Qst.val (some (.int .i64 (IntKind.i64.wrap (Int.ofNat ((b - a) / 4))))) (.int .i64 (Int.ofNat ((b - a) / 4))), Qst.val (some (.int .i64 (IntKind.i64.wrap (Int.ofNat ((b - a) / 4 * 3))))) (.int .i64 (Int.ofNat ((b - a) / 4 * 3))), Qst.val (some (.int .i64 (IntKind.i64.wrap (Int.ofNat (a + (b - a) / 4 * 3))))) (.int .i64 (Int.ofNat (a + (b - a) / 4 * 3))), Qst.val (some (.bool (decide (Int.ofNat (b - a) ≥ 8)))) (.bool true), Qst.val (some (.bool (decide (Int.ofNat (b - a) ≥ 50)))) (.bool false), Qst.snd (Task.call 80 [.osl 0 0 n 1, .int .i64 (Int.ofNat (a + (b - a) / 4 * 1)), .int .i64 (Int.ofNat (a + (b - a) / 4 * 2)), .int .i64 (Int.ofNat (a + (b - a) / 4 * 3)), .ptr 1 0] ⟨⟨[(1, .cells false [iN 0]), (0, .cells false D)], 2, none, []⟩, 2⟩) { e := .ret, ts := [iN m], s := ⟨⟨[(1, .cells false [iN w4]), (0, .cells false D)], 2, none, [1]⟩, 2⟩ }, Qst.val (some (.bool (Int.ofNat w4 == Int.ofNat 0))) (.bool true)]) := by kernel_rfl
theorem cp0d (n a b _ _ _ _ _ _ m _ _ _ _ _ _ w4 : Nat) (_ _ _ _ _ _ : Int) (_ : Bool) (D _ _ _ _ : List AV) (_ _ _ _ : AV) : runX Try.prog none_ 80 67 (.call 67 [.osl 0 0 n 1, (iN (a)), (iN (b))] ⟨⟨[(0, .cells false D)], 1, none, []⟩, 1⟩) [.val 67 1 2 (iN (b - a)), .val 67 3 2 (.int .i64 (Int.ofNat ((b - a) / 4))), .val 67 3 3 (.int .i64 (Int.ofNat ((b - a) / 4 * 1))), .val 67 3 4 (.int .i64 (Int.ofNat (a + (b - a) / 4 * 1))), .val 67 4 2 (.int .i64 (Int.ofNat ((b - a) / 4))), .val 67 4 3 (.int .i64 (Int.ofNat ((b - a) / 4 * 2))), .val 67 4 4 (.int .i64 (Int.ofNat (a + (b - a) / 4 * 2))), .val 67 5 2 (.int .i64 (Int.ofNat ((b - a) / 4))), .val 67 5 3 (.int .i64 (Int.ofNat ((b - a) / 4 * 3))), .val 67 5 4 (.int .i64 (Int.ofNat (a + (b - a) / 4 * 3))), .val 67 6 1 (.bool true), .val 67 7 1 (.bool false), .call 67 11 4 (iN (m)) (fun s => s.set 1 (.cells false [(iN (w4))])), .val 67 14 0 (.bool false), .val 67 16 0 (.bool true)] = some ({ e := .ret, ts := [.tuple [iN m, iN 2]], s := ⟨⟨[(0, .cells false D)], 1, none, []⟩, 2⟩ }, [], [Qst.val (some (.int .i64 (IntKind.i64.wrap (Int.ofNat b - Int.ofNat a)))) (iN (b - a)), Qst.val (some (.int .i64 (IntKind.i64.wrap (Int.ofNat ((b - a) / 4))))) (.int .i64 (Int.ofNat ((b - a) / 4))), Qst.val (some (.int .i64 (IntKind.i64.wrap (Int.ofNat ((b - a) / 4 * 1))))) (.int .i64 (Int.ofNat ((b - a) / 4 * 1))), Qst.val (some (.int .i64 (IntKind.i64.wrap (Int.ofNat (a + (b - a) / 4 * 1))))) (.int .i64 (Int.ofNat (a + (b - a) / 4 * 1))), Qst.val (some (.int .i64 (IntKind.i64.wrap (Int.ofNat ((b - a) / 4))))) (.int .i64 (Int.ofNat ((b - a) / 4))), Qst.val (some (.int .i64 (IntKind.i64.wrap (Int.ofNat ((b - a) / 4 * 2))))) (.int .i64 (Int.ofNat ((b - a) / 4 * 2))), Qst.val (some (.int .i64 (IntKind.i64.wrap (Int.ofNat (a + (b - a) / 4 * 2))))) (.int .i64 (Int.ofNat (a + (b - a) / 4 * 2))), Qst.val (some (.int .i64 (IntKind.i64.wrap (Int.ofNat ((b - a) / 4))))) (.int .i64 (Int.ofNat ((b - a) / 4))), Qst.val (some (.int .i64 (IntKind.i64.wrap (Int.ofNat ((b - a) / 4 * 3))))) (.int .i64 (Int.ofNat ((b - a) / 4 * 3))), Qst.val (some (.int .i64 (IntKind.i64.wrap (Int.ofNat (a + (b - a) / 4 * 3))))) (.int .i64 (Int.ofNat (a + (b - a) / 4 * 3))), Qst.val (some (.bool (decide (Int.ofNat (b - a) ≥ 8)))) (.bool true), Qst.val (some (.bool (decide (Int.ofNat (b - a) ≥ 50)))) (.bool false), Qst.snd (Task.call 80 [.osl 0 0 n 1, .int .i64 (Int.ofNat (a + (b - a) / 4 * 1)), .int .i64 (Int.ofNat (a + (b - a) / 4 * 2)), .int .i64 (Int.ofNat (a + (b - a) / 4 * 3)), .ptr 1 0] ⟨⟨[(1, .cells false [iN 0]), (0, .cells false D)], 2, none, []⟩, 2⟩) { e := .ret, ts := [iN m], s := ⟨⟨[(1, .cells false [iN w4]), (0, .cells false D)], 2, none, [1]⟩, 2⟩ }, Qst.val (some (.bool (Int.ofNat w4 == Int.ofNat 0))) (.bool false), Qst.val (some (.bool (Int.ofNat w4 == Int.ofNat 12))) (.bool true)]) := by kernel_rfl
theorem cp0u (n a b _ _ _ _ _ _ m _ _ _ _ _ _ w4 : Nat) (_ _ _ _ _ _ : Int) (_ : Bool) (D _ _ _ _ : List AV) (_ _ _ _ : AV) : runX Try.prog none_ 80 67 (.call 67 [.osl 0 0 n 1, (iN (a)), (iN (b))] ⟨⟨[(0, .cells false D)], 1, none, []⟩, 1⟩) [.val 67 1 2 (iN (b - a)), .val 67 3 2 (.int .i64 (Int.ofNat ((b - a) / 4))), .val 67 3 3 (.int .i64 (Int.ofNat ((b - a) / 4 * 1))), .val 67 3 4 (.int .i64 (Int.ofNat (a + (b - a) / 4 * 1))), .val 67 4 2 (.int .i64 (Int.ofNat ((b - a) / 4))), .val 67 4 3 (.int .i64 (Int.ofNat ((b - a) / 4 * 2))), .val 67 4 4 (.int .i64 (Int.ofNat (a + (b - a) / 4 * 2))), .val 67 5 2 (.int .i64 (Int.ofNat ((b - a) / 4))), .val 67 5 3 (.int .i64 (Int.ofNat ((b - a) / 4 * 3))), .val 67 5 4 (.int .i64 (Int.ofNat (a + (b - a) / 4 * 3))), .val 67 6 1 (.bool true), .val 67 7 1 (.bool false), .call 67 11 4 (iN (m)) (fun s => s.set 1 (.cells false [(iN (w4))])), .val 67 14 0 (.bool false), .val 67 16 0 (.bool false)] = some ({ e := .ret, ts := [.tuple [iN m, iN 0]], s := ⟨⟨[(0, .cells false D)], 1, none, []⟩, 2⟩ }, [], [Qst.val (some (.int .i64 (IntKind.i64.wrap (Int.ofNat b - Int.ofNat a)))) (iN (b - a)), Qst.val (some (.int .i64 (IntKind.i64.wrap (Int.ofNat ((b - a) / 4))))) (.int .i64 (Int.ofNat ((b - a) / 4))), Qst.val (some (.int .i64 (IntKind.i64.wrap (Int.ofNat ((b - a) / 4 * 1))))) (.int .i64 (Int.ofNat ((b - a) / 4 * 1))), Qst.val (some (.int .i64 (IntKind.i64.wrap (Int.ofNat (a + (b - a) / 4 * 1))))) (.int .i64 (Int.ofNat (a + (b - a) / 4 * 1))), Qst.val (some (.int .i64 (IntKind.i64.wrap (Int.ofNat ((b - a) / 4))))) (.int .i64 (Int.ofNat ((b - a) / 4))), Qst.val (some (.int .i64 (IntKind.i64.wrap (Int.ofNat ((b - a) / 4 * 2))))) (.int .i64 (Int.ofNat ((b - a) / 4 * 2))), Qst.val (some (.int .i64 (IntKind.i64.wrap (Int.ofNat (a + (b - a) / 4 * 2))))) (.int .i64 (Int.ofNat (a + (b - a) / 4 * 2))), Qst.val (some (.int .i64 (IntKind.i64.wrap (Int.ofNat ((b - a) / 4))))) (.int .i64 (Int.ofNat ((b - a) / 4))), Qst.val (some (.int .i64 (IntKind.i64.wrap (Int.ofNat ((b - a) / 4 * 3))))) (.int .i64 (Int.ofNat ((b - a) / 4 * 3))), Qst.val (some (.int .i64 (IntKind.i64.wrap (Int.ofNat (a + (b - a) / 4 * 3))))) (.int .i64 (Int.ofNat (a + (b - a) / 4 * 3))), Qst.val (some (.bool (decide (Int.ofNat (b - a) ≥ 8)))) (.bool true), Qst.val (some (.bool (decide (Int.ofNat (b - a) ≥ 50)))) (.bool false), Qst.snd (Task.call 80 [.osl 0 0 n 1, .int .i64 (Int.ofNat (a + (b - a) / 4 * 1)), .int .i64 (Int.ofNat (a + (b - a) / 4 * 2)), .int .i64 (Int.ofNat (a + (b - a) / 4 * 3)), .ptr 1 0] ⟨⟨[(1, .cells false [iN 0]), (0, .cells false D)], 2, none, []⟩, 2⟩) { e := .ret, ts := [iN m], s := ⟨⟨[(1, .cells false [iN w4]), (0, .cells false D)], 2, none, [1]⟩, 2⟩ }, Qst.val (some (.bool (Int.ofNat w4 == Int.ofNat 0))) (.bool false), Qst.val (some (.bool (Int.ofNat w4 == Int.ofNat 12))) (.bool false)]) := by kernel_rfl
theorem cp1i (n a b i j _ _ _ _ m _ k _ w1 w2 w3 w4 : Nat) (_ _ _ _ _ _ : Int) (_ : Bool) (D _ _ _ _ : List AV) (_ _ _ _ : AV) : runX Try.prog none_ 80 67 (.call 67 [.osl 0 0 n 1, (iN (a)), (iN (b))] ⟨⟨[(0, .cells false D)], 1, none, []⟩, 1⟩) [.val 67 1 2 (iN (b - a)), .val 67 3 2 (.int .i64 (Int.ofNat ((b - a) / 4))), .val 67 3 3 (.int .i64 (Int.ofNat ((b - a) / 4 * 1))), .val 67 3 4 (.int .i64 (Int.ofNat (a + (b - a) / 4 * 1))), .val 67 4 2 (.int .i64 (Int.ofNat ((b - a) / 4))), .val 67 4 3 (.int .i64 (Int.ofNat ((b - a) / 4 * 2))), .val 67 4 4 (.int .i64 (Int.ofNat (a + (b - a) / 4 * 2))), .val 67 5 2 (.int .i64 (Int.ofNat ((b - a) / 4))), .val 67 5 3 (.int .i64 (Int.ofNat ((b - a) / 4 * 3))), .val 67 5 4 (.int .i64 (Int.ofNat (a + (b - a) / 4 * 3))), .val 67 6 1 (.bool true), .val 67 7 1 (.bool true), .call 67 8 2 (iN (i)) (fun s => s.set 1 (.cells false [(iN (w1))])), .call 67 9 2 (iN (j)) (fun s => s.set 1 (.cells false [(iN (w2))])), .call 67 10 2 (iN (k)) (fun s => s.set 1 (.cells false [(iN (w3))])), .call 67 11 4 (iN (m)) (fun s => s.set 1 (.cells false [(iN (w4))])), .val 67 14 0 (.bool true)] = some ({ e := .ret, ts := [.tuple [iN m, iN 1]], s := ⟨⟨[(0, .cells false D)], 1, none, []⟩, 2⟩ }, [], [Qst.val (some (.int .i64 (IntKind.i64.wrap (Int.ofNat b - Int.ofNat a)))) (iN (b - a)), Qst.val (some (.int .i64 (IntKind.i64.wrap (Int.ofNat ((b - a) / 4))))) (.int .i64 (Int.ofNat ((b - a) / 4))), Qst.val (some (.int .i64 (IntKind.i64.wrap (Int.ofNat ((b - a) / 4 * 1))))) (.int .i64 (Int.ofNat ((b - a) / 4 * 1))), Qst.val (some (.int .i64 (IntKind.i64.wrap (Int.ofNat (a + (b - a) / 4 * 1))))) (.int .i64 (Int.ofNat (a + (b - a) / 4 * 1))), Qst.val (some (.int .i64 (IntKind.i64.wrap (Int.ofNat ((b - a) / 4))))) (.int .i64 (Int.ofNat ((b - a) / 4))), Qst.val (some (.int .i64 (IntKind.i64.wrap (Int.ofNat ((b - a) / 4 * 2))))) (.int .i64 (Int.ofNat ((b - a) / 4 * 2))), Qst.val (some (.int .i64 (IntKind.i64.wrap (Int.ofNat (a + (b - a) / 4 * 2))))) (.int .i64 (Int.ofNat (a + (b - a) / 4 * 2))), Qst.val (some (.int .i64 (IntKind.i64.wrap (Int.ofNat ((b - a) / 4))))) (.int .i64 (Int.ofNat ((b - a) / 4))), Qst.val (some (.int .i64 (IntKind.i64.wrap (Int.ofNat ((b - a) / 4 * 3))))) (.int .i64 (Int.ofNat ((b - a) / 4 * 3))), Qst.val (some (.int .i64 (IntKind.i64.wrap (Int.ofNat (a + (b - a) / 4 * 3))))) (.int .i64 (Int.ofNat (a + (b - a) / 4 * 3))), Qst.val (some (.bool (decide (Int.ofNat (b - a) ≥ 8)))) (.bool true), Qst.val (some (.bool (decide (Int.ofNat (b - a) ≥ 50)))) (.bool true), Qst.snd (Task.call 79 [.osl 0 0 n 1, .int .i64 (Int.ofNat (a + (b - a) / 4 * 1)), .ptr 1 0] ⟨⟨[(1, .cells false [iN 0]), (0, .cells false D)], 2, none, []⟩, 2⟩) { e := .ret, ts := [iN i], s := ⟨⟨[(1, .cells false [iN w1]), (0, .cells false D)], 2, none, [1]⟩, 2⟩ }, Qst.snd (Task.call 79 [.osl 0 0 n 1, .int .i64 (Int.ofNat (a + (b - a) / 4 * 2)), .ptr 1 0] ⟨⟨[(1, .cells false [iN w1]), (0, .cells false D)], 2, none, [1]⟩, 2⟩) { e := .ret, ts := [iN j], s := ⟨⟨[(1, .cells false [iN w2]), (0, .cells false D)], 2, none, [1, 1]⟩, 2⟩ }, Qst.snd (Task.call 79 [.osl 0 0 n 1, .int .i64 (Int.ofNat (a + (b - a) / 4 * 3)), .ptr 1 0] ⟨⟨[(1, .cells false [iN w2]), (0, .cells false D)], 2, none, [1, 1]⟩, 2⟩) { e := .ret, ts := [iN k], s := ⟨⟨[(1, .cells false [iN w3]), (0, .cells false D)], 2, none, [1, 1, 1]⟩, 2⟩ }, Qst.snd (Task.call 80 [.osl 0 0 n 1, iN i, iN j, iN k, .ptr 1 0] ⟨⟨[(1, .cells false [iN w3]), (0, .cells false D)], 2, none, [1, 1, 1]⟩, 2⟩) { e := .ret, ts := [iN m], s := ⟨⟨[(1, .cells false [iN w4]), (0, .cells false D)], 2, none, [1, 1, 1, 1]⟩, 2⟩ }, Qst.val (some (.bool (Int.ofNat w4 == Int.ofNat 0))) (.bool true)]) := by kernel_rfl
theorem cp1d (n a b i j _ _ _ _ m _ k _ w1 w2 w3 w4 : Nat) (_ _ _ _ _ _ : Int) (_ : Bool) (D _ _ _ _ : List AV) (_ _ _ _ : AV) : runX Try.prog none_ 80 67 (.call 67 [.osl 0 0 n 1, (iN (a)), (iN (b))] ⟨⟨[(0, .cells false D)], 1, none, []⟩, 1⟩) [.val 67 1 2 (iN (b - a)), .val 67 3 2 (.int .i64 (Int.ofNat ((b - a) / 4))), .val 67 3 3 (.int .i64 (Int.ofNat ((b - a) / 4 * 1))), .val 67 3 4 (.int .i64 (Int.ofNat (a + (b - a) / 4 * 1))), .val 67 4 2 (.int .i64 (Int.ofNat ((b - a) / 4))), .val 67 4 3 (.int .i64 (Int.ofNat ((b - a) / 4 * 2))), .val 67 4 4 (.int .i64 (Int.ofNat (a + (b - a) / 4 * 2))), .val 67 5 2 (.int .i64 (Int.ofNat ((b - a) / 4))), .val 67 5 3 (.int .i64 (Int.ofNat ((b - a) / 4 * 3))), .val 67 5 4 (.int .i64 (Int.ofNat (a + (b - a) / 4 * 3))), .val 67 6 1 (.bool true), .val 67 7 1 (.bool true), .call 67 8 2 (iN (i)) (fun s => s.set 1 (.cells false [(iN (w1))])), .call 67 9 2 (iN (j)) (fun s => s.set 1 (.cells false [(iN (w2))])), .call 67 10 2 (iN (k)) (fun s => s.set 1 (.cells false [(iN (w3))])), .call 67 11 4 (iN (m)) (fun s => s.set 1 (.cells false [(iN (w4))])), .val 67 14 0 (.bool false), .val 67 16 0 (.bool true)] = some ({ e := .ret, ts := [.tuple [iN m, iN 2]], s := ⟨⟨[(0, .cells false D)], 1, none, []⟩, 2⟩ }, [], [Qst.val (some (.int .i64 (IntKind.i64.wrap (Int.ofNat b - Int.ofNat a)))) (iN (b - a)), Qst.val (some (.int .i64 (IntKind.i64.wrap (Int.ofNat ((b - a) / 4))))) (.int .i64 (Int.ofNat ((b - a) / 4))), Qst.val (some (.int .i64 (IntKind.i64.wrap (Int.ofNat ((b - a) / 4 * 1))))) (.int .i64 (Int.ofNat ((b - a) / 4 * 1))), Qst.val (some (.int .i64 (IntKind.i64.wrap (Int.ofNat (a + (b - a) / 4 * 1))))) (.int .i64 (Int.ofNat (a + (b - a) / 4 * 1))), Qst.val (some (.int .i64 (IntKind.i64.wrap (Int.ofNat ((b - a) / 4))))) (.int .i64 (Int.ofNat ((b - a) / 4))), Qst.val (some (.int .i64 (IntKind.i64.wrap (Int.ofNat ((b - a) / 4 * 2))))) (.int .i64 (Int.ofNat ((b - a) / 4 * 2))), Qst.val (some (.int .i64 (IntKind.i64.wrap (Int.ofNat (a + (b - a) / 4 * 2))))) (.int .i64 (Int.ofNat (a + (b - a) / 4 * 2))), Qst.val (some (.int .i64 (IntKind.i64.wrap (Int.ofNat ((b - a) / 4))))) (.int .i64 (Int.ofNat ((b - a) / 4))), Qst.val (some (.int .i64 (IntKind.i64.wrap (Int.ofNat ((b - a) / 4 * 3))))) (.int .i64 (Int.ofNat ((b - a) / 4 * 3))), Qst.val (some (.int .i64 (IntKind.i64.wrap (Int.ofNat (a + (b - a) / 4 * 3))))) (.int .i64 (Int.ofNat (a + (b - a) / 4 * 3))), Qst.val (some (.bool (decide (Int.ofNat (b - a) ≥ 8)))) (.bool true), Qst.val (some (.bool (decide (Int.ofNat (b - a) ≥ 50)))) (.bool true), Qst.snd (Task.call 79 [.osl 0 0 n 1, .int .i64 (Int.ofNat (a + (b - a) / 4 * 1)), .ptr 1 0] ⟨⟨[(1, .cells false [iN 0]), (0, .cells false D)], 2, none, []⟩, 2⟩) { e := .ret, ts := [iN i], s := ⟨⟨[(1, .cells false [iN w1]), (0, .cells false D)], 2, none, [1]⟩, 2⟩ }, Qst.snd (Task.call 79 [.osl 0 0 n 1, .int .i64 (Int.ofNat (a + (b - a) / 4 * 2)), .ptr 1 0] ⟨⟨[(1, .cells false [iN w1]), (0, .cells false D)], 2, none, [1]⟩, 2⟩) { e := .ret, ts := [iN j], s := ⟨⟨[(1, .cells false [iN w2]), (0, .cells false D)], 2, none, [1, 1]⟩, 2⟩ }, Qst.snd (Task.call 79 [.osl 0 0 n 1, .int .i64 (Int.ofNat (a + (b - a) / 4 * 3)), .ptr 1 0] ⟨⟨[(1, .cells false [iN w2]), (0, .cells false D)], 2, none, [1, 1]⟩, 2⟩) { e := .ret, ts := [iN k], s := ⟨⟨[(1, .cells false [iN w3]), (0, .cells false D)], 2, none, [1, 1, 1]⟩, 2⟩ }, Qst.snd (Task.call 80 [.osl 0 0 n 1, iN i, iN j, iN k, .ptr 1 0] ⟨⟨[(1, .cells false [iN w3]), (0, .cells false D)], 2, none, [1, 1, 1]⟩, 2⟩) { e := .ret, ts := [iN m], s := ⟨⟨[(1, .cells false [iN w4]), (0, .cells false D)], 2, none, [1, 1, 1, 1]⟩, 2⟩ }, Qst.val (some (.bool (Int.ofNat w4 == Int.ofNat 0))) (.bool false), Qst.val (some (.bool (Int.ofNat w4 == Int.ofNat 12))) (.bool true)]) := by kernel_rfl
theorem cp1u (n a b i j _ _ _ _ m _ k _ w1 w2 w3 w4 : Nat) (_ _ _ _ _ _ : Int) (_ : Bool) (D _ _ _ _ : List AV) (_ _ _ _ : AV) : runX Try.prog none_ 80 67 (.call 67 [.osl 0 0 n 1, (iN (a)), (iN (b))] ⟨⟨[(0, .cells false D)], 1, none, []⟩, 1⟩) [.val 67 1 2 (iN (b - a)), .val 67 3 2 (.int .i64 (Int.ofNat ((b - a) / 4))), .val 67 3 3 (.int .i64 (Int.ofNat ((b - a) / 4 * 1))), .val 67 3 4 (.int .i64 (Int.ofNat (a + (b - a) / 4 * 1))), .val 67 4 2 (.int .i64 (Int.ofNat ((b - a) / 4))), .val 67 4 3 (.int .i64 (Int.ofNat ((b - a) / 4 * 2))), .val 67 4 4 (.int .i64 (Int.ofNat (a + (b - a) / 4 * 2))), .val 67 5 2 (.int .i64 (Int.ofNat ((b - a) / 4))), .val 67 5 3 (.int .i64 (Int.ofNat ((b - a) / 4 * 3))), .val 67 5 4 (.int .i64 (Int.ofNat (a + (b - a) / 4 * 3))), .val 67 6 1 (.bool true), .val 67 7 1 (.bool true), .call 67 8 2 (iN (i)) (fun s => s.set 1 (.cells false [(iN (w1))])), .call 67 9 2 (iN (j)) (fun s => s.set 1 (.cells false [(iN (w2))])), .call 67 10 2 (iN (k)) (fun s => s.set 1 (.cells false [(iN (w3))])), .call 67 11 4 (iN (m)) (fun s => s.set 1 (.cells false [(iN (w4))])), .val 67 14 0 (.bool false), .val 67 16 0 (.bool false)] = some ({ e := .ret, ts := [.tuple [iN m, iN 0]], s := ⟨⟨[(0, .cells false D)], 1, none, []⟩, 2⟩ }, [], [Qst.val (some (.int .i64 (IntKind.i64.wrap (Int.ofNat b - Int.ofNat a)))) (iN (b - a)), Qst.val (some (.int .i64 (IntKind.i64.wrap (Int.ofNat ((b - a) / 4))))) (.int .i64 (Int.ofNat ((b - a) / 4))), Qst.val (some (.int .i64 (IntKind.i64.wrap (Int.ofNat ((b - a) / 4 * 1))))) (.int .i64 (Int.ofNat ((b - a) / 4 * 1))), Qst.val (some (.int .i64 (IntKind.i64.wrap (Int.ofNat (a + (b - a) / 4 * 1))))) (.int .i64 (Int.ofNat (a + (b - a) / 4 * 1))), Qst.val (some (.int .i64 (IntKind.i64.wrap (Int.ofNat ((b - a) / 4))))) (.int .i64 (Int.ofNat ((b - a) / 4))), Qst.val (some (.int .i64 (IntKind.i64.wrap (Int.ofNat ((b - a) / 4 * 2))))) (.int .i64 (Int.ofNat ((b - a) / 4 * 2))), Qst.val (some (.int .i64 (IntKind.i64.wrap (Int.ofNat (a + (b - a) / 4 * 2))))) (.int .i64 (Int.ofNat (a + (b - a) / 4 * 2))), Qst.val (some (.int .i64 (IntKind.i64.wrap (Int.ofNat ((b - a) / 4))))) (.int .i64 (Int.ofNat ((b - a) / 4))), Qst.val (some (.int .i64 (IntKind.i64.wrap (Int.ofNat ((b - a) / 4 * 3))))) (.int .i64 (Int.ofNat ((b - a) / 4 * 3))), Qst.val (some (.int .i64 (IntKind.i64.wrap (Int.ofNat (a + (b - a) / 4 * 3))))) (.int .i64 (Int.ofNat (a + (b - a) / 4 * 3))), Qst.val (some (.bool (decide (Int.ofNat (b - a) ≥ 8)))) (.bool true), Qst.val (some (.bool (decide (Int.ofNat (b - a) ≥ 50)))) (.bool true), Qst.snd (Task.call 79 [.osl 0 0 n 1, .int .i64 (Int.ofNat (a + (b - a) / 4 * 1)), .ptr 1 0] ⟨⟨[(1, .cells false [iN 0]), (0, .cells false D)], 2, none, []⟩, 2⟩) { e := .ret, ts := [iN i], s := ⟨⟨[(1, .cells false [iN w1]), (0, .cells false D)], 2, none, [1]⟩, 2⟩ }, Qst.snd (Task.call 79 [.osl 0 0 n 1, .int .i64 (Int.ofNat (a + (b - a) / 4 * 2)), .ptr 1 0] ⟨⟨[(1, .cells false [iN w1]), (0, .cells false D)], 2, none, [1]⟩, 2⟩) { e := .ret, ts := [iN j], s := ⟨⟨[(1, .cells false [iN w2]), (0, .cells false D)], 2, none, [1, 1]⟩, 2⟩ }, Qst.snd (Task.call 79 [.osl 0 0 n 1, .int .i64 (Int.ofNat (a + (b - a) / 4 * 3)), .ptr 1 0] ⟨⟨[(1, .cells false [iN w2]), (0, .cells false D)], 2, none, [1, 1]⟩, 2⟩) { e := .ret, ts := [iN k], s := ⟨⟨[(1, .cells false [iN w3]), (0, .cells false D)], 2, none, [1, 1, 1]⟩, 2⟩ }, Qst.snd (Task.call 80 [.osl 0 0 n 1, iN i, iN j, iN k, .ptr 1 0] ⟨⟨[(1, .cells false [iN w3]), (0, .cells false D)], 2, none, [1, 1, 1]⟩, 2⟩) { e := .ret, ts := [iN m], s := ⟨⟨[(1, .cells false [iN w4]), (0, .cells false D)], 2, none, [1, 1, 1, 1]⟩, 2⟩ }, Qst.val (some (.bool (Int.ofNat w4 == Int.ofNat 0))) (.bool false), Qst.val (some (.bool (Int.ofNat w4 == Int.ofNat 12))) (.bool false)]) := by kernel_rfl
theorem np (_ _ _ _ _ _ _ _ _ m l k _ _ _ _ _ : Nat) (_ _ _ _ _ _ : Int) (_ : Bool) (_ _ _ _ _ : List AV) (_ _ _ _ : AV) : runX Try.prog none_ 80 77 (.call 77 [(iN (l))] ⟨⟨[], 0, none, []⟩, 1⟩) [.val 77 1 1 (.int .u64 (Int.ofNat (l))), .call 77 1 2 (iN (k)) id, .val 77 1 3 (.int .u64 (Int.ofNat (m)))] = some ({ e := .ret, ts := [iW (Int.ofNat m)], s := ⟨⟨[], 0, none, []⟩, 1⟩ }, [], [Qst.val (some (.int .u64 (Int.ofNat (l % ((2 : Int) ^ IntKind.u64.bits).natAbs)))) (iW (Int.ofNat l)), Qst.snd (Task.call 61 [iW (Int.ofNat l)] ⟨⟨[], 0, none, []⟩, 1⟩) { e := .ret, ts := [iN k], s := ⟨⟨[], 0, none, []⟩, 1⟩ }, Qst.val (some (.int .u64 (Int.ofNat (1 * 2 ^ min (Int.ofNat k).toNat IntKind.u64.bits % ((2 : Int) ^ IntKind.u64.bits).natAbs)))) (iW (Int.ofNat m))]) := by kernel_rfl
theorem nx (_ _ _ _ _ _ _ _ _ m _ k w w1 w2 w3 w4 : Nat) (_ _ _ _ _ _ : Int) (_ : Bool) (_ _ _ _ _ : List AV) (_ _ _ _ : AV) : runX Try.prog none_ 80 78 (.call 78 [.ptr 1 0] ⟨⟨[(1, .cells false [iW (Int.ofNat w)])], 1, none, []⟩, 2⟩) [.val 78 1 6 (.int .u64 (Int.ofNat (w1))), .val 78 1 7 (.int .u64 (Int.ofNat (w2))), .val 78 2 6 (.int .u64 (Int.ofNat (w3))), .val 78 2 7 (.int .u64 (Int.ofNat (w4))), .val 78 3 6 (.int .u64 (Int.ofNat (k))), .val 78 3 7 (.int .u64 (Int.ofNat (m)))] = some ({ e := .ret, ts := [iW (Int.ofNat m)], s := ⟨⟨[(1, .cells false [iW (Int.ofNat m)])], 1, none, [1, 1, 1]⟩, 2⟩ }, [], [Qst.val (some (.int .u64 (Int.ofNat (w * 2 ^ min (Int.toNat 13) IntKind.u64.bits % ((2 : Int) ^ IntKind.u64.bits).natAbs)))) (iW (Int.ofNat w1)), Qst.val (some (.int .u64 (Int.ofNat ((match BinOp.xor with | BinOp.and => BitVec.ofInt IntKind.u64.bits (Int.ofNat w) &&& BitVec.ofInt IntKind.u64.bits (Int.ofNat w1) | BinOp.or => BitVec.ofInt IntKind.u64.bits (Int.ofNat w) ||| BitVec.ofInt IntKind.u64.bits (Int.ofNat w1) | BinOp.xor => BitVec.ofInt IntKind.u64.bits (Int.ofNat w) ^^^ BitVec.ofInt IntKind.u64.bits (Int.ofNat w1) | _ => BitVec.ofInt IntKind.u64.bits (Int.ofNat w) &&& ~~~BitVec.ofInt IntKind.u64.bits (Int.ofNat w1)).toNat % ((2 : Int) ^ IntKind.u64.bits).natAbs)))) (iW (Int.ofNat w2)), Qst.val (some (.int .u64 ((Int.ofNat w2).fdiv (Int.ofNat 128)))) (iW (Int.ofNat w3)), Qst.val (some (.int .u64 (Int.ofNat ((match BinOp.xor with | BinOp.and => BitVec.ofInt IntKind.u64.bits (Int.ofNat w2) &&& BitVec.ofInt IntKind.u64.bits (Int.ofNat w3) | BinOp.or => BitVec.ofInt IntKind.u64.bits (Int.ofNat w2) ||| BitVec.ofInt IntKind.u64.bits (Int.ofNat w3) | BinOp.xor => BitVec.ofInt IntKind.u64.bits (Int.ofNat w2) ^^^ BitVec.ofInt IntKind.u64.bits (Int.ofNat w3) | _ => BitVec.ofInt IntKind.u64.bits (Int.ofNat w2) &&& ~~~BitVec.ofInt IntKind.u64.bits (Int.ofNat w3)).toNat % ((2 : Int) ^ IntKind.u64.bits).natAbs)))) (iW (Int.ofNat w4)), Qst.val (some (.int .u64 (Int.ofNat (w4 * 2 ^ min (Int.toNat 17) IntKind.u64.bits % ((2 : Int) ^ IntKind.u64.bits).natAbs)))) (iW (Int.ofNat k)), Qst.val (some (.int .u64 (Int.ofNat ((match BinOp.xor with | BinOp.and => BitVec.ofInt IntKind.u64.bits (Int.ofNat w4) &&& BitVec.ofInt IntKind.u64.bits (Int.ofNat k) | BinOp.or => BitVec.ofInt IntKind.u64.bits (Int.ofNat w4) ||| BitVec.ofInt IntKind.u64.bits (Int.ofNat k) | BinOp.xor => BitVec.ofInt IntKind.u64.bits (Int.ofNat w4) ^^^ BitVec.ofInt IntKind.u64.bits (Int.ofNat k) | _ => BitVec.ofInt IntKind.u64.bits (Int.ofNat w4) &&& ~~~BitVec.ofInt IntKind.u64.bits (Int.ofNat k)).toNat % ((2 : Int) ^ IntKind.u64.bits).natAbs)))) (iW (Int.ofNat m))]) := by kernel_rfl
theorem bp_end (n a _ i _ _ _ _ _ m l _ w _ _ _ _ : Nat) (_ _ _ _ _ _ : Int) (_ : Bool) (D _ _ _ _ : List AV) (_ _ _ _ : AV) : runX Try.prog none_ 80 66 (.code (loopAt Try.prog 66 0) (T66 n a l m i) ⟨⟨[(1, .cells false [(.int .u64 (Int.ofNat (w)))]), (0, .cells false D)], 2, none, []⟩, 2⟩) [.val 66 5 3 (iN (l / 4)), .val 66 5 4 (iN (l / 4 * 2)), .val 66 5 5 (iN (a + l / 4 * 2)), .val 66 5 6 (iN (a + l / 4 * 2 + 1)), .val 66 5 7 (.bool false)] = some ({ e := .exit 0, ts := [.osl 0 0 n 1, iN a, jq, jq, jq, jq, iN l, .ptr 1 0, iW (Int.ofNat m), iN i, jq, jq, jq, jq, jq, jq, jq, jq, jq, jq, jq, jq, jq, jq, jq, jq, iN i, iN a, iN l, iN (l / 4), iN (l / 4 * 2), iN (a + l / 4 * 2), iN (a + l / 4 * 2 + 1), .bool false, jq, jq, jq, jq, jq, jq, jq, jq, jq, jq, jq, jq, jq, jq, jq, jq, jq, jq, jq, jq, jq, jq, jq, jq, jq, jq, jq, jq, jq, jq, jq], s := ⟨⟨[(1, .cells false [iW (Int.ofNat w)]), (0, .cells false D)], 2, none, []⟩, 2⟩ }, [], [Qst.val (some (.int .i64 (IntKind.i64.wrap (Int.ofNat (l / 4))))) (iN (l / 4)), Qst.val (some (.int .i64 (IntKind.i64.wrap (Int.ofNat (l / 4 * 2))))) (iN (l / 4 * 2)), Qst.val (some (.int .i64 (IntKind.i64.wrap (Int.ofNat (a + l / 4 * 2))))) (iN (a + l / 4 * 2)), Qst.val (some (.int .i64 (IntKind.i64.wrap (Int.ofNat (a + l / 4 * 2 + 1))))) (iN (a + l / 4 * 2 + 1)), Qst.val (some (.bool (decide (Int.ofNat i ≤ Int.ofNat (a + l / 4 * 2 + 1))))) (.bool false)]) := by kernel_rfl
theorem bp_go0 (n a _ i _ _ g _ _ m l _ w w1 _ _ _ : Nat) (x y _ _ _ _ : Int) (_ : Bool) (D D1 D2 _ _ : List AV) (_ _ _ _ : AV) : runX Try.prog none_ 80 66 (.code (loopAt Try.prog 66 0) (T66 n a l m i) ⟨⟨[(1, .cells false [(.int .u64 (Int.ofNat (w)))]), (0, .cells false D)], 2, none, []⟩, 2⟩) [.val 66 5 3 (iN (l / 4)), .val 66 5 4 (iN (l / 4 * 2)), .val 66 5 5 (iN (a + l / 4 * 2)), .val 66 5 6 (iN (a + l / 4 * 2 + 1)), .val 66 5 7 (.bool true), .call 66 7 0 (.int .u64 (Int.ofNat (w1))) (fun s => s.set 1 (.cells false [(.int .u64 (Int.ofNat (w1)))])), .val 66 7 2 (.int .u64 (Int.ofNat (m - 1))), .val 66 7 3 (.int .u64 (Int.ofNat (g))), .val 66 7 4 (iN (g)), .val 66 8 2 (.bool false), .val 66 10 5 (iN (a + g)), .val 66 10 9 (iN (a + g)), .val 66 10 10 (.ptr 0 (a + g)), .val 66 10 11 (iW y), .val 66 10 14 (.ptr 0 (i)), .val 66 10 15 (iW x), .val 66 10 16 (.ptr 0 (i)), .eff 66 10 17 uD (fun s => s.set 0 (.cells false D1)), .val 66 10 18 (.ptr 0 (a + g)), .eff 66 10 19 uD (fun s => s.set 0 (.cells false D2)), .val 66 6 1 (iN (i + 1))] = some ({ e := .normal, ts := [.osl 0 0 n 1, iN a, jq, jq, jq, jq, iN l, .ptr 1 0, iW (Int.ofNat m), iN (i + 1), iN g, jq, jq, jq, jq, jq, jq, jq, jq, jq, jq, jq, jq, jq, jq, jq, iN i, iN a, iN l, iN (l / 4), iN (l / 4 * 2), iN (a + l / 4 * 2), iN (a + l / 4 * 2 + 1), .bool true, iN i, iN (i + 1), iW (Int.ofNat w1), iW (Int.ofNat m), .int .u64 (Int.ofNat (m - 1)), iW (Int.ofNat g), iN g, iN g, iN l, .bool false, jq, jq, jq, .osl 0 0 n 1, iN i, .osl 0 0 n 1, iN a, iN g, iN (a + g), .osl 0 0 n 1, iN a, iN g, iN (a + g), .ptr 0 (a + g), iW y, .osl 0 0 n 1, iN i, .ptr 0 i, iW x, .ptr 0 i, .ptr 0 (a + g)], s := ⟨⟨[(1, .cells false [iW (Int.ofNat w1)]), (0, .cells false D2)], 2, none, [0, 0, 1]⟩, 2⟩ }, [], [Qst.val (some (.int .i64 (IntKind.i64.wrap (Int.ofNat (l / 4))))) (iN (l / 4)), Qst.val (some (.int .i64 (IntKind.i64.wrap (Int.ofNat (l / 4 * 2))))) (iN (l / 4 * 2)), Qst.val (some (.int .i64 (IntKind.i64.wrap (Int.ofNat (a + l / 4 * 2))))) (iN (a + l / 4 * 2)), Qst.val (some (.int .i64 (IntKind.i64.wrap (Int.ofNat (a + l / 4 * 2 + 1))))) (iN (a + l / 4 * 2 + 1)), Qst.val (some (.bool (decide (Int.ofNat i ≤ Int.ofNat (a + l / 4 * 2 + 1))))) (.bool true), Qst.snd (Task.call 78 [.ptr 1 0] ⟨⟨[(1, .cells false [iW (Int.ofNat w)]), (0, .cells false D)], 2, none, []⟩, 2⟩) { e := .ret, ts := [iW (Int.ofNat w1)], s := ⟨⟨[(1, .cells false [iW (Int.ofNat w1)]), (0, .cells false D)], 2, none, [1]⟩, 2⟩ }, Qst.val (some (.int .u64 (IntKind.u64.wrap (Int.ofNat m - Int.ofNat 1)))) (.int .u64 (Int.ofNat (m - 1))), Qst.val (some (.int .u64 (Int.ofNat ((match BinOp.and with | BinOp.and => BitVec.ofInt IntKind.u64.bits (Int.ofNat w1) &&& BitVec.ofInt IntKind.u64.bits (Int.ofNat (m - 1)) | BinOp.or => BitVec.ofInt IntKind.u64.bits (Int.ofNat w1) ||| BitVec.ofInt IntKind.u64.bits (Int.ofNat (m - 1)) | BinOp.xor => BitVec.ofInt IntKind.u64.bits (Int.ofNat w1) ^^^ BitVec.ofInt IntKind.u64.bits (Int.ofNat (m - 1)) | _ => BitVec.ofInt IntKind.u64.bits (Int.ofNat w1) &&& ~~~BitVec.ofInt IntKind.u64.bits (Int.ofNat (m - 1))).toNat % ((2 : Int) ^ IntKind.u64.bits).natAbs)))) (iW (Int.ofNat g)), Qst.val (some (.int .i64 (IntKind.i64.wrap (Int.ofNat g)))) (iN g), Qst.val (some (.bool (decide (Int.ofNat g ≥ Int.ofNat l)))) (.bool false), Qst.val (some (.int .i64 (IntKind.i64.wrap (Int.ofNat (a + g))))) (iN (a + g)), Qst.val (some (.int .i64 (IntKind.i64.wrap (Int.ofNat (a + g))))) (iN (a + g)), Qst.idx 30 (.osl 0 0 n 1) (iN (a + g)) (.ptr 0 (a + g)), Qst.ld 22 ⟨⟨[(1, .cells false [iW (Int.ofNat w1)]), (0, .cells false D)], 2, none, [1]⟩, 2⟩ (.ptr 0 (a + g)) (iW y), Qst.idx 30 (.osl 0 0 n 1) (iN i) (.ptr 0 i), Qst.ld 22 ⟨⟨[(1, .cells false [iW (Int.ofNat w1)]), (0, .cells false D)], 2, none, [1]⟩, 2⟩ (.ptr 0 i) (iW x), Qst.idx 30 (.osl 0 0 n 1) (iN i) (.ptr 0 i), Qst.sto ⟨⟨[(1, .cells false [iW (Int.ofNat w1)]), (0, .cells false D)], 2, none, [1]⟩, 2⟩ 22 (.ptr 0 i) (iW y) (uD) ⟨⟨[(1, .cells false [iW (Int.ofNat w1)]), (0, .cells false D1)], 2, none, [0, 1]⟩, 2⟩, Qst.idx 30 (.osl 0 0 n 1) (iN (a + g)) (.ptr 0 (a + g)), Qst.sto ⟨⟨[(1, .cells false [iW (Int.ofNat w1)]), (0, .cells false D1)], 2, none, [0, 1]⟩, 2⟩ 22 (.ptr 0 (a + g)) (iW x) (uD) ⟨⟨[(1, .cells false [iW (Int.ofNat w1)]), (0, .cells false D2)], 2, none, [0, 0, 1]⟩, 2⟩, Qst.val (some (.int .i64 (IntKind.i64.wrap (Int.ofNat (i + 1))))) (iN (i + 1))]) := by kernel_rfl
theorem bp_go1 (n a _ i _ _ g _ _ m l _ w w1 _ _ _ : Nat) (x y _ _ _ _ : Int) (_ : Bool) (D D1 D2 _ _ : List AV) (_ _ _ _ : AV) : runX Try.prog none_ 80 66 (.code (loopAt Try.prog 66 0) (T66 n a l m i) ⟨⟨[(1, .cells false [(.int .u64 (Int.ofNat (w)))]), (0, .cells false D)], 2, none, []⟩, 2⟩) [.val 66 5 3 (iN (l / 4)), .val 66 5 4 (iN (l / 4 * 2)), .val 66 5 5 (iN (a + l / 4 * 2)), .val 66 5 6 (iN (a + l / 4 * 2 + 1)), .val 66 5 7 (.bool true), .call 66 7 0 (.int .u64 (Int.ofNat (w1))) (fun s => s.set 1 (.cells false [(.int .u64 (Int.ofNat (w1)))])), .val 66 7 2 (.int .u64 (Int.ofNat (m - 1))), .val 66 7 3 (.int .u64 (Int.ofNat (g))), .val 66 7 4 (iN (g)), .val 66 8 2 (.bool true), .val 66 9 2 (iN (g - l)), .val 66 10 5 (.int .i64 (Int.ofNat (a + (g - l)))), .val 66 10 9 (.int .i64 (Int.ofNat (a + (g - l)))), .val 66 10 10 (.ptr 0 (a + (g - l))), .val 66 10 11 (iW y), .val 66 10 14 (.ptr 0 (i)), .val 66 10 15 (iW x), .val 66 10 16 (.ptr 0 (i)), .eff 66 10 17 uD (fun s => s.set 0 (.cells false D1)), .val 66 10 18 (.ptr 0 (a + (g - l))), .eff 66 10 19 uD (fun s => s.set 0 (.cells false D2)), .val 66 6 1 (iN (i + 1))] = some ({ e := .normal, ts := [.osl 0 0 n 1, iN a, jq, jq, jq, jq, iN l, .ptr 1 0, iW (Int.ofNat m), iN (i + 1), iN (g - l), jq, jq, jq, jq, jq, jq, jq, jq, jq, jq, jq, jq, jq, jq, jq, iN i, iN a, iN l, iN (l / 4), iN (l / 4 * 2), iN (a + l / 4 * 2), iN (a + l / 4 * 2 + 1), .bool true, iN i, iN (i + 1), iW (Int.ofNat w1), iW (Int.ofNat m), .int .u64 (Int.ofNat (m - 1)), iW (Int.ofNat g), iN g, iN g, iN l, .bool true, iN g, iN l, iN (g - l), .osl 0 0 n 1, iN i, .osl 0 0 n 1, iN a, iN (g - l), .int .i64 (Int.ofNat (a + (g - l))), .osl 0 0 n 1, iN a, iN (g - l), .int .i64 (Int.ofNat (a + (g - l))), .ptr 0 (a + (g - l)), iW y, .osl 0 0 n 1, iN i, .ptr 0 i, iW x, .ptr 0 i, .ptr 0 (a + (g - l))], s := ⟨⟨[(1, .cells false [iW (Int.ofNat w1)]), (0, .cells false D2)], 2, none, [0, 0, 1]⟩, 2⟩ }, [], [Qst.val (some (.int .i64 (IntKind.i64.wrap (Int.ofNat (l / 4))))) (iN (l / 4)), Qst.val (some (.int .i64 (IntKind.i64.wrap (Int.ofNat (l / 4 * 2))))) (iN (l / 4 * 2)), Qst.val (some (.int .i64 (IntKind.i64.wrap (Int.ofNat (a + l / 4 * 2))))) (iN (a + l / 4 * 2)), Qst.val (some (.int .i64 (IntKind.i64.wrap (Int.ofNat (a + l / 4 * 2 + 1))))) (iN (a + l / 4 * 2 + 1)), Qst.val (some (.bool (decide (Int.ofNat i ≤ Int.ofNat (a + l / 4 * 2 + 1))))) (.bool true), Qst.snd (Task.call 78 [.ptr 1 0] ⟨⟨[(1, .cells false [iW (Int.ofNat w)]), (0, .cells false D)], 2, none, []⟩, 2⟩) { e := .ret, ts := [iW (Int.ofNat w1)], s := ⟨⟨[(1, .cells false [iW (Int.ofNat w1)]), (0, .cells false D)], 2, none, [1]⟩, 2⟩ }, Qst.val (some (.int .u64 (IntKind.u64.wrap (Int.ofNat m - Int.ofNat 1)))) (.int .u64 (Int.ofNat (m - 1))), Qst.val (some (.int .u64 (Int.ofNat ((match BinOp.and with | BinOp.and => BitVec.ofInt IntKind.u64.bits (Int.ofNat w1) &&& BitVec.ofInt IntKind.u64.bits (Int.ofNat (m - 1)) | BinOp.or => BitVec.ofInt IntKind.u64.bits (Int.ofNat w1) ||| BitVec.ofInt IntKind.u64.bits (Int.ofNat (m - 1)) | BinOp.xor => BitVec.ofInt IntKind.u64.bits (Int.ofNat w1) ^^^ BitVec.ofInt IntKind.u64.bits (Int.ofNat (m - 1)) | _ => BitVec.ofInt IntKind.u64.bits (Int.ofNat w1) &&& ~~~BitVec.ofInt IntKind.u64.bits (Int.ofNat (m - 1))).toNat % ((2 : Int) ^ IntKind.u64.bits).natAbs)))) (iW (Int.ofNat g)), Qst.val (some (.int .i64 (IntKind.i64.wrap (Int.ofNat g)))) (iN g), Qst.val (some (.bool (decide (Int.ofNat g ≥ Int.ofNat l)))) (.bool true), Qst.val (some (.int .i64 (IntKind.i64.wrap (Int.ofNat g - Int.ofNat l)))) (iN (g - l)), Qst.val (some (.int .i64 (IntKind.i64.wrap (Int.ofNat (a + (g - l)))))) (.int .i64 (Int.ofNat (a + (g - l)))), Qst.val (some (.int .i64 (IntKind.i64.wrap (Int.ofNat (a + (g - l)))))) (.int .i64 (Int.ofNat (a + (g - l)))), Qst.idx 30 (.osl 0 0 n 1) (.int .i64 (Int.ofNat (a + (g - l)))) (.ptr 0 (a + (g - l))), Qst.ld 22 ⟨⟨[(1, .cells false [iW (Int.ofNat w1)]), (0, .cells false D)], 2, none, [1]⟩, 2⟩ (.ptr 0 (a + (g - l))) (iW y), Qst.idx 30 (.osl 0 0 n 1) (iN i) (.ptr 0 i), Qst.ld 22 ⟨⟨[(1, .cells false [iW (Int.ofNat w1)]), (0, .cells false D)], 2, none, [1]⟩, 2⟩ (.ptr 0 i) (iW x), Qst.idx 30 (.osl 0 0 n 1) (iN i) (.ptr 0 i), Qst.sto ⟨⟨[(1, .cells false [iW (Int.ofNat w1)]), (0, .cells false D)], 2, none, [1]⟩, 2⟩ 22 (.ptr 0 i) (iW y) (uD) ⟨⟨[(1, .cells false [iW (Int.ofNat w1)]), (0, .cells false D1)], 2, none, [0, 1]⟩, 2⟩, Qst.idx 30 (.osl 0 0 n 1) (.int .i64 (Int.ofNat (a + (g - l)))) (.ptr 0 (a + (g - l))), Qst.sto ⟨⟨[(1, .cells false [iW (Int.ofNat w1)]), (0, .cells false D1)], 2, none, [0, 1]⟩, 2⟩ 22 (.ptr 0 (a + (g - l))) (iW x) (uD) ⟨⟨[(1, .cells false [iW (Int.ofNat w1)]), (0, .cells false D2)], 2, none, [0, 0, 1]⟩, 2⟩, Qst.val (some (.int .i64 (IntKind.i64.wrap (Int.ofNat (i + 1))))) (iN (i + 1))]) := by kernel_rfl
theorem bp_call (n a b i _ _ _ _ _ m l _ w _ _ _ _ : Nat) (_ _ _ _ _ _ : Int) (_ : Bool) (D D1 _ _ _ : List AV) (_ _ _ _ : AV) : runX Try.prog none_ 80 66 (.call 66 [.osl 0 0 n 1, (iN (a)), (iN (b))] ⟨⟨[(0, .cells false D)], 1, none, []⟩, 1⟩) [.val 66 0 2 (iN (l)), .val 66 1 1 (.bool true), .val 66 2 1 (.int .u64 (Int.ofNat (l))), .call 66 3 1 (.int .u64 (Int.ofNat (m))) id, .val 66 4 2 (iN (l / 4)), .val 66 4 3 (iN (l / 4 * 2)), .val 66 4 4 (iN (a + l / 4 * 2)), .val 66 4 5 (iN (a + l / 4 * 2 - 1)), .loop 66 (fun _ s => ⟨.exit 0, T66 n a l m i, (s.set 1 (.cells false [iW (Int.ofNat w)])).set 0 (.cells false D1)⟩)] = some ({ e := .ret, ts := [uD], s := ⟨⟨[(0, .cells false D1)], 1, none, [0]⟩, 2⟩ }, [], [Qst.val (some (.int .i64 (IntKind.i64.wrap (Int.ofNat b - Int.ofNat a)))) (iN l), Qst.val (some (.bool (decide (Int.ofNat l ≥ 8)))) (.bool true), Qst.val (some (.int .u64 (Int.ofNat (l % ((2 : Int) ^ IntKind.u64.bits).natAbs)))) (iW (Int.ofNat l)), Qst.snd (Task.call 77 [iN l] ⟨⟨[(1, .cells false [iW (Int.ofNat l)]), (0, .cells false D)], 2, none, [1]⟩, 2⟩) { e := .ret, ts := [iW (Int.ofNat m)], s := ⟨⟨[(1, .cells false [iW (Int.ofNat l)]), (0, .cells false D)], 2, none, [1]⟩, 2⟩ }, Qst.val (some (.int .i64 (IntKind.i64.wrap (Int.ofNat (l / 4))))) (iN (l / 4)), Qst.val (some (.int .i64 (IntKind.i64.wrap (Int.ofNat (l / 4 * 2))))) (iN (l / 4 * 2)), Qst.val (some (.int .i64 (IntKind.i64.wrap (Int.ofNat (a + l / 4 * 2))))) (iN (a + l / 4 * 2)), Qst.val (some (.int .i64 (IntKind.i64.wrap (Int.ofNat (a + l / 4 * 2) - Int.ofNat 1)))) (iN (a + l / 4 * 2 - 1)), Qst.snd (Task.code (Code.loop (loopAt Try.prog 66 0)) [.osl 0 0 n 1, iN a, iN b, uD, uD, uD, iN l, .ptr 1 0, iW (Int.ofNat m), iN (a + l / 4 * 2 - 1), uD, iN b, iN a, iN l, iN l, .bool true, iN l, iW (Int.ofNat l), iN l, iW (Int.ofNat m), iN a, iN l, iN (l / 4), iN (l / 4 * 2), iN (a + l / 4 * 2), iN (a + l / 4 * 2 - 1), uD, uD, uD, uD, uD, uD, uD, uD, uD, uD, uD, uD, uD, uD, uD, uD, uD, uD, uD, uD, uD, uD, uD, uD, uD, uD, uD, uD, uD, uD, uD, uD, uD, uD, uD, uD, uD, uD, uD] ⟨⟨[(1, .cells false [iW (Int.ofNat l)]), (0, .cells false D)], 2, none, [1]⟩, 2⟩) { e := .exit 0, ts := [.osl 0 0 n 1, iN a, jq, jq, jq, jq, iN l, .ptr 1 0, iW (Int.ofNat m), iN i, jq, jq, jq, jq, jq, jq, jq, jq, jq, jq, jq, jq, jq, jq, jq, jq, jq, jq, jq, jq, jq, jq, jq, jq, jq, jq, jq, jq, jq, jq, jq, jq, jq, jq, jq, jq, jq, jq, jq, jq, jq, jq, jq, jq, jq, jq, jq, jq, jq, jq, jq, jq, jq, jq, jq], s := ⟨⟨[(1, .cells false [iW (Int.ofNat w)]), (0, .cells false D1)], 2, none, [0, 1, 1]⟩, 2⟩ }]) := by kernel_rfl
end Go.Proofs.Ythooafgfpnedhaa.specsDo.pq
