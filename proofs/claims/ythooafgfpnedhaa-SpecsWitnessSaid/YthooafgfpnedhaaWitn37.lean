/- The third loop of the law. Conditions: those that each theorem names, and no others. -/
import Derived.Test.YthooafgfpnedhaaWitn36
namespace Go.Proofs.Ythooafgfpnedhaa.specsWitness
open Go Go.Mini
/-- A slot of a call, or one of which nothing is told. -/
def X13 (x : AV) : Prop := x = uu ∨ X12 x
theorem see12 {x : AV} (h : X13 x) (p : Nat → Bool) : (x = junkOf x ∧ junkable x = true) ∨ (x.names p = true ∧ x = x.ren (fun b => b)) := by
  rcases h with rfl | h
  · exact .inl ⟨rfl, rfl⟩
  · exact .inr ⟨h.nm p, (h.ren _).symm⟩
section
variable {D : List Nat} {A L : List Call9} {oR o1 o0 : AObj} {n N : Nat} {Z : Nat → Call9} (hN : A.length = N) (hs : n ≤ 60) (hZ : ∀ k, k < n → ∃ e, D[k]? = some e ∧ A[e]? = some (Z k))
    (hF : ∀ k i, k < i → i < n → toF (Z i) = Int.negSucc 0 ∨ ¬ toF (Z i) < fromF (Z k)) (fR : Free oR) (f1 : o1.names (fun _ => false) = true) (f0 : o0.names (fun _ => false) = true)
include hN hs hZ hF fR f1 f0
theorem loop3 {x49 x58 x108 x112 : AV} (h49 : X13 x49) (h58 : X13 x58) (h108 : X13 x108) (h112 : X13 x112) {i : Nat} (hi : i < n) : ∀ (m k : Nat), i - k = m → k ≤ i → ∀ {x126 x133 : AV}, X13 x126 → X13 x133 → ∃ y126 y133, X13 y126 ∧ X13 y133 ∧
    SoundL Try.prog [] (.loop (loopAt Try.prog 6 2)) (TI n N x49 x58 x108 x112 x126 x133 i (.int .i64 (Int.ofNat k))) (bsT D A L oR o1 o0) 6 6 (.exit 4) (TI n N x49 x58 x108 x112 y126 y133 i (.int .i64 (Int.ofNat i))) (bsT D A L oR o1 o0) := by
  intro m
  induction m with
  | zero =>
    intro k hm hk x126 x133 h126 h133
    have : k = i := by omega
    subst this
    refine ⟨x126, x133, h126, h133, SoundL.stop (SoundL.plain (runX_sound mixed none_sound (k_end x49 x58 x108 x112 x126 x133 n N k k 0 0 0 0 0 0 0 0 0 0 0 0 0 0 0 0 0 0 0 0 0 0 0 0 (bsT D A L oR o1 o0)) ⟨ltq k k false (by simp), trivial⟩) ?_) (by simp)⟩
    unfold TI
    repeat (first | exact rfl | refine ⟨_, _, rfl, ?_, ?_⟩ | exact .inr ⟨rfl, rfl⟩ | exact .inl ⟨rfl, rfl⟩ | exact see_same _)
  | succ m ih =>
    intro k hm hk x126 x133 h126 h133
    have hlt : k < i := by omega
    obtain ⟨e, d1, d2⟩ := hZ k (by omega)
    obtain ⟨e2, d3, d4⟩ := hZ i hi
    have he : e < A.length := (List.getElem?_eq_some_iff.1 d2).1
    have he2 : e2 < A.length := (List.getElem?_eq_some_iff.1 d4).1
    rw [hN] at he he2
    obtain ⟨y126, y133, k126, k133, go⟩ := ih (k + 1) (by omega) (by omega) (x126 := .agg (callC (Z k))) (x133 := .agg (callC (Z i))) (.inr (.inr ⟨_, rfl⟩)) (.inr (.inr ⟨_, rfl⟩))
    refine ⟨y126, y133, k126, k133, SoundL.next ?_ go⟩
    have q1 := ltq k i true (by simpa using hlt)
    have qw := wq (n := k + 1) (Int.ofNat (k + 1)) rfl (by omega)
    have tidy : ∀ {ts1 : List AV} {s1 : AS}, Sound Try.prog (.code (loopAt Try.prog 6 2) (TI n N x49 x58 x108 x112 x126 x133 i (.int .i64 (Int.ofNat k))) ⟨⟨bsT D A L oR o1 o0, 6, none, []⟩, 6⟩) ⟨.normal, ts1, s1⟩ → seesT (fun b => b) (fun c => Nat.blt c 6) (TI n N x49 x58 x108 x112 (.agg (callC (Z k))) (.agg (callC (Z i))) i (.int .i64 (Int.ofNat (k + 1)))) ts1 → eachB (fun b o => s1.get b = some o) (bsT D A L oR o1 o0) →
        SoundL Try.prog [] (loopAt Try.prog 6 2) (TI n N x49 x58 x108 x112 x126 x133 i (.int .i64 (Int.ofNat k))) (bsT D A L oR o1 o0) 6 6 .normal (TI n N x49 x58 x108 x112 (.agg (callC (Z k))) (.agg (callC (Z i))) i (.int .i64 (Int.ofNat (k + 1)))) (bsT D A L oR o1 o0) := fun h1 h2 h3 => by
      obtain ⟨g1, g2, g3, g4, g5, g6, _⟩ := h3
      exact SoundL.intro h1 h2 (sameBut_refl _) ⟨⟨nc_names _ _, g1⟩, ⟨names_calls _ _, g2⟩, ⟨fR.nm _, g3⟩, ⟨names_calls _ _, g4⟩, ⟨onames_sub (fun _ h => by cases h) f1, g5⟩, ⟨onames_sub (fun _ h => by cases h) f0, g6⟩, trivial⟩
    cases hto : (toF (Z i) != Int.negSucc 0) with
    | false =>
      refine tidy (runX_sound mixed none_sound (k_0 x49 x58 x108 x112 x126 x133 n N i k k (e * 9) e i (e2 * 9) e2 (Z k).1 (Z k).2.1 (Z k).2.2.1 (Z k).2.2.2.1 (Z k).2.2.2.2.1 (Z k).2.2.2.2.2.1 (Z k).2.2.2.2.2.2.1 (Z k).2.2.2.2.2.2.2.1 (Z k).2.2.2.2.2.2.2.2 (Z i).1 (Z i).2.1 (Z i).2.2.1 (Z i).2.2.2.1 (Z i).2.2.2.2.1 (Z i).2.2.2.2.2.1 (Z i).2.2.2.2.2.2.1 (Z i).2.2.2.2.2.2.2.1 (Z i).2.2.2.2.2.2.2.2 (bsT D A L oR o1 o0)) ⟨q1, idxD (by omega), ldD d1 _ rfl, idx50 he, ldA d2 _ rfl, idxD hi, ldD d3 _ rfl, idx50 he2, ldA d4 _ rfl, bq hto, qw, trivial⟩) ?_ ⟨rfl, rfl, rfl, rfl, rfl, rfl, trivial⟩
      unfold TI
      repeat (first | exact rfl | refine ⟨_, _, rfl, ?_, ?_⟩ | exact .inr ⟨rfl, rfl⟩ | exact .inl ⟨rfl, rfl⟩ | exact see12 (by assumption) _)
    | true =>
      have hlt2 : decide (toF (Z i) < fromF (Z k)) = false := by
        rcases hF k i hlt hi with h | h
        · rw [h] at hto
          cases hto
        · exact decide_eq_false h
      refine tidy (runX_sound mixed none_sound (k_1 x49 x58 x108 x112 x126 x133 n N i k k (e * 9) e i (e2 * 9) e2 (Z k).1 (Z k).2.1 (Z k).2.2.1 (Z k).2.2.2.1 (Z k).2.2.2.2.1 (Z k).2.2.2.2.2.1 (Z k).2.2.2.2.2.2.1 (Z k).2.2.2.2.2.2.2.1 (Z k).2.2.2.2.2.2.2.2 (Z i).1 (Z i).2.1 (Z i).2.2.1 (Z i).2.2.2.1 (Z i).2.2.2.2.1 (Z i).2.2.2.2.2.1 (Z i).2.2.2.2.2.2.1 (Z i).2.2.2.2.2.2.2.1 (Z i).2.2.2.2.2.2.2.2 (bsT D A L oR o1 o0)) ⟨q1, idxD (by omega), ldD d1 _ rfl, idx50 he, ldA d2 _ rfl, idxD hi, ldD d3 _ rfl, idx50 he2, ldA d4 _ rfl, bq hto, bq hlt2, qw, trivial⟩) ?_ ⟨rfl, rfl, rfl, rfl, rfl, rfl, trivial⟩
      unfold TI
      repeat (first | exact rfl | refine ⟨_, _, rfl, ?_, ?_⟩ | exact .inr ⟨rfl, rfl⟩ | exact .inl ⟨rfl, rfl⟩ | exact see12 (by assumption) _)
end
end Go.Proofs.Ythooafgfpnedhaa.specsWitness
