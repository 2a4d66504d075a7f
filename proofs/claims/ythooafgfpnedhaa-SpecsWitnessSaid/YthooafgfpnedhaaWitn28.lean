/- What made makes fits. Conditions: those that each theorem names, and no others. -/
import Derived.Test.YthooafgfpnedhaaWitn27
namespace Go.Proofs.Ythooafgfpnedhaa.specsWitness
open Go Go.Mini
/-! ### what made makes fits; with one thing changed, it does not -/
theorem wrapU64 (n : Int) : IntKind.u64.wrap n = n % 18446744073709551616 := by simp [IntKind.wrap, IntKind.bits, IntKind.signed]
theorem putP_ans (S : List (Int × Int)) (k v : Int) : (putP S k v).1.1 = 1 ∨ (putP S k v).1.1 = 2 := by
  unfold putP
  split <;> simp
theorem dropP_ans (S : List (Int × Int)) (k : Int) : (dropP S k).1.1 = 1 ∨ (dropP S k).1.1 = 2 := by
  unfold dropP
  split <;> simp
theorem step_ans (ps : PS) (op : Nat) (k v : Int) : (stepP ps op k v).1.1 = 1 ∨ (stepP ps op k v).1.1 = 2 := by
  unfold stepP
  split
  · exact putP_ans _ _ _
  · exact dropP_ans _ _
  · simp only
    split <;> simp
  · simp
  · split <;> simp
  · exact putP_ans _ _ _
  · exact dropP_ans _ _
  · split <;> simp
section
variable {f : Nat → Do3} {τ : Nat → Nat}
theorem good_call (j : Nat) : badF (callM f τ j) (ansM f j) = false := by
  have h1 : decide (fromF (callM f τ j) > atF (callM f τ j)) = false := by
    apply decide_eq_false
    show ¬ (Int.ofNat (stM τ (j + 1) - τ j / 3 % 9) > Int.ofNat (stM τ (j + 1)))
    simp only [Int.ofNat_eq_natCast]
    omega
  have h2 : ((toF (callM f τ j) != Int.negSucc 0) && decide (atF (callM f τ j) > toF (callM f τ j))) = false := by
    show ((toM τ j != Int.negSucc 0) && decide (Int.ofNat (stM τ (j + 1)) > toM τ j)) = false
    unfold toM
    split
    · rfl
    · rw [show decide (Int.ofNat (stM τ (j + 1)) > Int.ofNat (stM τ (j + 1) + τ j / 27 % 9)) = false from decide_eq_false (by simp only [Int.ofNat_eq_natCast]; omega)]
      simp
  have h3 : (Int.ofNat (ansM f j).1 != ansF (callM f τ j)) = false := by
    show (Int.ofNat (ansM f j).1 != Int.ofNat (ansM f j).1) = false
    simp
  have h4 : ((ansM f j).2 != gotF (callM f τ j)) = false := by
    show ((ansM f j).2 != (ansM f j).2) = false
    simp
  unfold badF
  rw [h1, h2, h3, h4]
  rfl
/-- Calls as made makes them, up to one. -/
theorem judge_at {g : Nat → Call9} {i n : Nat} (hi : i < n) (hk : ∀ d, d < n → kF (g d) = (f d).2.1 ∧ vF (g d) = (f d).2.2) (hg : ∀ d, d < i → g d = callM f τ d) (hb : badF (g i) (ansM f i) = true) :
    ∀ (k j : Nat), i - j = k → j ≤ i → judgeL g (opM f) (List.range' j (n - j)) (psM f j) = some i := by
  intro k
  induction k with
  | zero =>
    intro j hk' hj
    have : j = i := by omega
    subst this
    rw [show n - j = (n - j - 1) + 1 from by omega, List.range'_succ]
    obtain ⟨k1, k2⟩ := hk j hi
    show (if badF (g j) (stepP (psM f j) (opM f j) (kF (g j)) (vF (g j))).1 then some j else _) = _
    rw [k1, k2]
    exact if_pos hb
  | succ k ih =>
    intro j hk' hj
    have hlt : j < i := by omega
    rw [show n - j = (n - (j + 1)) + 1 from by omega, List.range'_succ]
    obtain ⟨k1, k2⟩ := hk j (by omega)
    have e := hg j hlt
    have hgood : badF (g j) (stepP (psM f j) (opM f j) (f j).2.1 (f j).2.2).1 = false := by
      rw [e]
      exact good_call j
    show (if badF (g j) (stepP (psM f j) (opM f j) (kF (g j)) (vF (g j))).1 then some j else judgeL g (opM f) (List.range' (j + 1) (n - (j + 1))) (stepP (psM f j) (opM f j) (kF (g j)) (vF (g j))).2) = _
    rw [k1, k2, hgood]
    exact ih (j + 1) (by omega) (by omega)
theorem judge_all {g : Nat → Call9} {n : Nat} (hg : ∀ d, d < n → g d = callM f τ d) : ∀ (k j : Nat), n - j = k → judgeL g (opM f) (List.range' j (n - j)) (psM f j) = none := by
  intro k
  induction k with
  | zero =>
    intro j hk'
    rw [hk']
    rfl
  | succ k ih =>
    intro j hk'
    rw [show n - j = (n - (j + 1)) + 1 from by omega, List.range'_succ]
    have e := hg j (by omega)
    have k1 : kF (g j) = (f j).2.1 := by rw [e]; rfl
    have k2 : vF (g j) = (f j).2.2 := by rw [e]; rfl
    have hgood : badF (g j) (stepP (psM f j) (opM f j) (f j).2.1 (f j).2.2).1 = false := by
      rw [e]
      exact good_call j
    show (if badF (g j) (stepP (psM f j) (opM f j) (kF (g j)) (vF (g j))).1 then some j else judgeL g (opM f) (List.range' (j + 1) (n - (j + 1))) (stepP (psM f j) (opM f j) (kF (g j)) (vF (g j))).2) = _
    rw [k1, k2, hgood]
    exact ih (j + 1) (by omega)
/-- Points that rise: the witness is the order in which they stand. -/
theorem line {g : Nat → Call9} {n : Nat} (hat : ∀ d, d < n → atF (g d) = Int.ofNat (stM τ (d + 1))) {D : List Nat} (hp : D.Perm (livesTo g n)) (hs : Srt (fun i => atF (g i)) D) : D = List.range n := by
  have hl : livesTo g n = List.range n := by
    unfold livesTo
    rw [List.filter_eq_self]
    intro d hd
    have hd : d < n := by simpa using hd
    show (atF (g d) != Int.negSucc 0) = true
    rw [hat d hd]
    rfl
  rw [hl] at hp
  refine srt_unique (k := fun i => atF (g i)) hs ?_ hp
  refine List.Pairwise.imp_of_mem (fun {a b} ha hb hab => ?_) (List.pairwise_lt_range (n := n))
  have ha : a < n := by simpa using ha
  have hb : b < n := by simpa using hb
  refine .inl ?_
  show atF (g a) < atF (g b)
  rw [hat a ha, hat b hb]
  have := stM_lt τ (i := a + 1) (j := b + 1) (by omega)
  simp only [Int.ofNat_eq_natCast]
  omega
end
end Go.Proofs.Ythooafgfpnedhaa.specsWitness
