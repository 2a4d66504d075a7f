/- The inner loop of the Witness of the document. Conditions: those that each theorem names, and no others. -/
import Derived.Test.YthooafgfpnedhaaJud31
import Derived.Test.YthooafgfpnedhaaJud23
namespace Go.Proofs.Ythooafgfpnedhaa.specsJudge
open Go Go.Mini
/-! ### the document's Witness -/
def callO (z : Call9) : List AV := [.int .i64 z.1, .int .i64 z.2.1, .int .u64 z.2.2.1, .int .u64 z.2.2.2.1, .int .i64 z.2.2.2.2.1, .int .u64 z.2.2.2.2.2.1, .int .i64 z.2.2.2.2.2.2.1, .int .i64 z.2.2.2.2.2.2.2.1, .int .i64 z.2.2.2.2.2.2.2.2]
abbrev co (A : List Call9) : List AV := rowsOf callO A
theorem names_co (p : Nat → Bool) (A : List Call9) : namess p (co A) = true := names_rows (fun _ => rfl) A
theorem freeCo (A : List Call9) : Free (.cells false (co A)) := ⟨rfl, names_co _ A⟩
theorem t51 : Try.prog.underlying 51 = some (.slice 53) := by kernel_rfl
theorem s53 : sizeA Try.prog 53 = some 9 := by kernel_rfl
theorem a53 : isAggA Try.prog 53 = some true := by kernel_rfl
def fA (A : List Call9) (i : Nat) : Call9 := (A[i]?).getD z9
theorem fA_at {A : List Call9} {i : Nat} (h : i < A.length) : A[i]? = some (fA A i) := by
  unfold fA
  rw [List.getElem?_eq_getElem h]
  rfl
section
variable {A : List Call9} {i : Nat} (h : i < A.length) {s : AS} {b : Nat} {ro : Bool} (hs : s.get b = some (.cells ro (co A)))
include h hs
theorem ld_at : (Qst.ld 3 s (.ptr b (i * 9 + 7)) (.int .i64 (atF (fA A i)))).ok Try.prog := ld_rowCell (f := callO) (n := 9) (i := 7) (fun _ => rfl) a3 hs (fA_at h) rfl
theorem ld_O : (Qst.ld 53 s (.ptr b (i * 9)) (.agg (callO (fA A i)))).ok Try.prog := ld_row (f := callO) (n := 9) (fun _ => rfl) a53 s53 hs (fA_at h)
end
theorem ln_51 (s : AS) (b n : Nat) : (Qst.ln 51 s (.osl b 0 n 9) (.int .i64 (Int.ofNat n))).ok Try.prog := by
  simp only [Qst.ok, lenA, t51]
  rfl
theorem idx51 {b n i : Nat} (h : i < n) : (Qst.idx 51 (.osl b 0 n 9) (.int .i64 (Int.ofNat i)) (.ptr b (i * 9))).ok Try.prog := idx_osl t51 s53 h
theorem idx57 {b n i : Nat} (h : i < n) : (Qst.idx 57 (.osl b 0 n 1) (.int .i64 (Int.ofNat i)) (.ptr b i)).ok Try.prog := by
  have := idx_osl (b := b) t57 z3 h
  rw [Nat.mul_one] at this
  exact this
theorem ld_nc {L : List Nat} {j d : Nat} (h : L[j]? = some d) {s : AS} {b : Nat} {ro : Bool} (hs : s.get b = some (.cells ro (nc L))) : (Qst.ld 3 s (.ptr b j) (.int .i64 (Int.ofNat d))).ok Try.prog :=
  ld_cell a3 hs (by simp [nc, h])
def bsY (L : List Nat) (A : List Call9) : List (Nat × AObj) := [(1, .cells false (nc L)), (0, .cells true (co A))]
abbrev atA (A : List Call9) (i : Nat) : Int := atF (fA A i)
theorem y_inner {A : List Call9} {L : List Nat} (hL : ∀ d ∈ L, d < A.length) (hl : L.length ≤ 1000) {i : Nat} (hi : i < A.length) : ∀ k, k ≤ L.length → ∃ k', k' ≤ k ∧ (k' = 0 ∨ ∃ d, L[k' - 1]? = some d ∧ ¬ atA A d > atA A i) ∧ (∀ j d, k' ≤ j → j < k → L[j]? = some d → atA A d > atA A i) ∧
    SoundL Try.prog [] (.loop (loopAt Try.prog 20 1)) (TDi (.osl 0 0 A.length 9) (.osl 1 0 L.length 1) i k) (bsY L A) 2 2 (.exit 2) (TDi (.osl 0 0 A.length 9) (.osl 1 0 L.length 1) i k') (bsY L A) := by
  intro k
  induction k with
  | zero =>
    intro _
    refine ⟨0, Nat.le_refl _, .inl rfl, fun j d h1 h2 => absurd h2 (Nat.not_lt_zero _), SoundL.stop (SoundL.plain (runX_sound mixed none_sound (yi_0 (.osl 0 0 A.length 9) .nilFunc 0 i 0 L.length 0 0 0 0 0 0 0 (.cells false (nc L)) .dead .dead .dead (co A)) ⟨bq (by simp), trivial⟩) ?_) (by simp)⟩
    unfold TDi
    repeat (first | exact rfl | refine ⟨_, _, rfl, ?_, ?_⟩ | exact .inr ⟨rfl, rfl⟩ | exact .inl ⟨rfl, rfl⟩ | exact see_same _)
  | succ k ih =>
    intro hk
    have hlt : k < L.length := by omega
    have hx : L[k]? = some L[k] := List.getElem?_eq_getElem hlt
    have hd : L[k] < A.length := hL _ (List.getElem_mem hlt)
    have q0 : (Qst.val (some (AV.bool (decide (Int.ofNat (k + 1) > 0)))) (AV.bool true)).ok Try.prog := bq (decide_eq_true (by show (0 : Int) < Int.ofNat (k + 1); simp only [Int.ofNat_eq_natCast]; omega))
    have q1 := wq (n := k + 1 - 1) (Int.ofNat (k + 1) - Int.ofNat 1) (by simp only [Int.ofNat_eq_natCast]; omega) (by omega)
    have i1 : (Qst.idx 57 (.osl 1 0 L.length 1) (.int .i64 (Int.ofNat (k + 1 - 1))) (.ptr 1 (k + 1 - 1))).ok Try.prog := idx57 (by omega)
    have l1 : ∀ s : AS, s.get 1 = some (.cells false (nc L)) → (Qst.ld 3 s (.ptr 1 (k + 1 - 1)) (.int .i64 (Int.ofNat L[k]))).ok Try.prog := fun s h => ld_nc hx h
    by_cases hgt : atA A L[k] > atA A i
    · obtain ⟨k', e1, e2, e3, go⟩ := ih (by omega)
      refine ⟨k', by omega, e2, fun j d h1 h2 h3 => ?_, SoundL.next (SoundL.plain (runX_sound mixed none_sound (yi_go (.osl 0 0 A.length 9) .nilFunc 0 i (k + 1) L.length (i * 9) (L[k] * 9) L[k] 0 0 (atA A i) (atA A L[k]) (.cells false (nc L)) .dead .dead .dead (co A)) ⟨q0, q1, i1, l1 _ rfl, idx51 hd, ld_at hd rfl, idx51 hi, ld_at hi rfl, bq (decide_eq_true hgt), q1, trivial⟩) ?_) go⟩
      · by_cases hj : j < k
        · exact e3 j d h1 hj h3
        · have : j = k := by omega
          subst this
          rw [hx] at h3
          rw [← Option.some.inj h3]
          exact hgt
      · unfold TDi
        repeat (first | exact rfl | refine ⟨_, _, rfl, ?_, ?_⟩ | exact .inr ⟨rfl, rfl⟩ | exact .inl ⟨rfl, rfl⟩ | exact see_same _)
    · refine ⟨k + 1, Nat.le_refl _, .inr ⟨L[k], hx, hgt⟩, fun j d h1 h2 => absurd h2 (by omega), SoundL.stop (SoundL.plain (runX_sound mixed none_sound (yi_stop (.osl 0 0 A.length 9) .nilFunc 0 i (k + 1) L.length (i * 9) (L[k] * 9) L[k] 0 0 (atA A i) (atA A L[k]) (.cells false (nc L)) .dead .dead .dead (co A)) ⟨q0, q1, i1, l1 _ rfl, idx51 hd, ld_at hd rfl, idx51 hi, ld_at hi rfl, bq (decide_eq_false hgt), trivial⟩) ?_) (by simp)⟩
      unfold TDi
      repeat (first | exact rfl | refine ⟨_, _, rfl, ?_, ?_⟩ | exact .inr ⟨rfl, rfl⟩ | exact .inl ⟨rfl, rfl⟩ | exact see_same _)
end Go.Proofs.Ythooafgfpnedhaa.specsJudge
