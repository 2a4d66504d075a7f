/- The second loop of the law. Conditions: those that each theorem names, and no others. -/
import Derived.Test.YthooafgfpnedhaaWitn37
namespace Go.Proofs.Ythooafgfpnedhaa.specsWitness
open Go Go.Mini
theorem eq9 (s : AS) (a1 a2 a3 a4 a5 a6 a7 a8 a9 b1 b2 b3 b4 b5 b6 b7 b8 b9 : Int) : eqlA Try.prog s 56 (.agg (callC (a1, a2, a3, a4, a5, a6, a7, a8, a9))) (.agg (callC (b1, b2, b3, b4, b5, b6, b7, b8, b9))) =
    (bif a1 == b1 then (bif a2 == b2 then (bif a3 == b3 then (bif a4 == b4 then (bif a5 == b5 then (bif a6 == b6 then (bif a7 == b7 then (bif a8 == b8 then (bif a9 == b9 then some true else some false) else some false) else some false) else some false) else some false) else some false) else some false) else some false) else some false) := by kernel_rfl
theorem eq9_same (s : AS) (z : Call9) : eqlA Try.prog s 56 (.agg (callC z)) (.agg (callC z)) = some true := by
  obtain ⟨a1, a2, a3, a4, a5, a6, a7, a8, a9⟩ := z
  rw [eq9]
  simp
section
variable {D : List Nat} {A L : List Call9} {oR o1 o0 : AObj} {n N : Nat} {Z : Nat → Call9} (hN : A.length = N) (hs : n ≤ 60) (hZ : ∀ k, k < n → ∃ e, D[k]? = some e ∧ A[e]? = some (Z k)) (hL : ∀ k, k < n → L[k]? = some (Z k))
    (hF : ∀ k i, k < i → i < n → toF (Z i) = Int.negSucc 0 ∨ ¬ toF (Z i) < fromF (Z k)) (fR : Free oR) (f1 : o1.names (fun _ => false) = true) (f0 : o0.names (fun _ => false) = true)
include hN hs hZ hL hF fR f1 f0
theorem loop2 {x49 x58 : AV} (h49 : X13 x49) (h58 : X13 x58) : ∀ (m i : Nat), n - i = m → i ≤ n → ∀ {x108 x112 x126 x133 t15 : AV}, X13 x108 → X13 x112 → X13 x126 → X13 x133 → (t15 = uu ∨ ∃ j, t15 = .int .i64 j) → ∃ y108 y112 y126 y133 u15, X13 y108 ∧ X13 y112 ∧ X13 y126 ∧ X13 y133 ∧
    SoundL Try.prog [] (.loop (loopAt Try.prog 6 1)) (TI n N x49 x58 x108 x112 x126 x133 i t15) (bsT D A L oR o1 o0) 6 6 (.exit 2) (TI n N x49 x58 y108 y112 y126 y133 n u15) (bsT D A L oR o1 o0) := by
  intro m
  induction m with
  | zero =>
    intro i hm hi x108 x112 x126 x133 t15 h108 h112 h126 h133 h15
    have : i = n := by omega
    subst this
    have s15 : (t15 = junkOf t15 ∧ junkable t15 = true) ∨ (t15.names (fun _ => true) = true ∧ t15 = t15.ren (fun b => b)) := see_same _
    refine ⟨x108, x112, x126, x133, t15, h108, h112, h126, h133, SoundL.stop (SoundL.plain (runX_sound mixed none_sound (l2_end x49 x58 x108 x112 x126 x133 .nilFunc .nilFunc t15 i N i 0 0 0 0 0 0 0 0 0 0 0 0 0 (bsT D A L oR o1 o0)) ⟨ltq i i false (by simp), trivial⟩) ?_) (by simp)⟩
    unfold TI
    repeat (first | exact rfl | refine ⟨_, _, rfl, ?_, ?_⟩ | exact .inr ⟨rfl, rfl⟩ | exact .inl ⟨rfl, rfl⟩ | exact see_same _)
  | succ m ih =>
    intro i hm hi x108 x112 x126 x133 t15 h108 h112 h126 h133 h15
    have hlt : i < n := by omega
    obtain ⟨d, d1, d2⟩ := hZ i hlt
    have hd : d < A.length := (List.getElem?_eq_some_iff.1 d2).1
    rw [hN] at hd
    have z12 : X13 (.agg (callC (Z i))) := .inr (.inr ⟨_, rfl⟩)
    obtain ⟨v126, v133, k126, k133, inner⟩ := loop3 hN hs hZ hF fR f1 f0 (x49 := x49) (x58 := x58) (x108 := .agg (callC (Z i))) (x112 := .agg (callC (Z i))) h49 h58 z12 z12 hlt i 0 rfl (Nat.zero_le _) (x126 := x126) (x133 := x133) h126 h133
    obtain ⟨y108, y112, y126, y133, u15, e1, e2, e3, e4, go⟩ := ih (i + 1) (by omega) (by omega) (x108 := .agg (callC (Z i))) (x112 := .agg (callC (Z i))) (x126 := v126) (x133 := v133) (t15 := .int .i64 (Int.ofNat i)) z12 z12 k126 k133 (.inr ⟨_, rfl⟩)
    refine ⟨y108, y112, y126, y133, u15, e1, e2, e3, e4, SoundL.next (SoundL.plain (runX_sound mixed none_sound (l2_go x49 x58 x108 x112 x126 x133 v126 v133 t15 n N i i d (d * 9) (i * 9) (Z i).1 (Z i).2.1 (Z i).2.2.1 (Z i).2.2.2.1 (Z i).2.2.2.2.1 (Z i).2.2.2.2.2.1 (Z i).2.2.2.2.2.2.1 (Z i).2.2.2.2.2.2.2.1 (Z i).2.2.2.2.2.2.2.2 (bsT D A L oR o1 o0)) ⟨ltq i n true (by simpa using hlt), idxD hlt, ldD d1 _ rfl, rfl, idxD hlt, ldD d1 _ rfl, bq (b := decide (Int.ofNat d ≥ Int.ofNat N)) (decide_eq_false (by simp only [Int.ofNat_eq_natCast]; omega)), idxD hlt, ldD d1 _ rfl, idx50 hd, ldA d2 _ rfl, idx50 hlt, ld_row (f := callC) (n := 9) (fun _ => rfl) a56 s56 (ro := false) rfl (hL i hlt), ⟨true, eq9_same _ (Z i), rfl⟩, ?_, wq (n := i + 1) _ rfl (by omega), trivial⟩) ?_) go⟩
    · refine Sound.enter (inner none none []) ?_
      unfold TI
      repeat (first | exact rfl | refine ⟨_, _, rfl, ?_, ?_⟩ | exact .inr ⟨rfl, rfl⟩ | exact .inl ⟨rfl, rfl⟩ | exact see_same _)
    · unfold TI
      repeat (first | exact rfl | refine ⟨_, _, rfl, ?_, ?_⟩ | exact .inr ⟨rfl, rfl⟩ | exact .inl ⟨rfl, rfl⟩ | exact see_same _)
end
end Go.Proofs.Ythooafgfpnedhaa.specsWitness
