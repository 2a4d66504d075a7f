/- The first loop of the law, in its canonical state. Conditions: those that each theorem names, and no others. -/
import Derived.Test.YthooafgfpnedhaaWitn33
namespace Go.Proofs.Ythooafgfpnedhaa.specsWitness
open Go Go.Mini
section
variable {L : List Call9} {n tu : Nat} (hL : L.length = n) (hn : 0 < n) (hs : n ≤ 60) (ht : tu ≤ 255)
include hL hn hs ht
theorem v_tail : ∀ (k i : Nat), n - i = k → 0 < i → i ≤ n → ∀ {x49 x58 : AV}, X12 x49 → X12 x58 → ∃ y49 y58, X12 y49 ∧ X12 y58 ∧
    Go.Mini.Good Try.prog [(0, rowsOf callC L)] (canS [(1, .cells false (rowsOf callC (AW L n tu i)))] (rowsOf callC L) 2 2) [1] (TV n (.osl 1 0 (AW L n tu i).length 9) x49 x58 tu i) (.loop (loopAt Try.prog 6 0)) (.exit 0) (TV n (.osl 1 0 (AW L n tu n).length 9) y49 y58 tu n) (canS [(1, .cells false (rowsOf callC (AW L n tu n)))] (rowsOf callC L) 2 2) [1] := by
  intro k
  induction k with
  | zero =>
    intro i hk h0 hi x49 x58 h49 h58
    have : i = n := by omega
    subst this
    refine ⟨x49, x58, h49, h58, Good.loop_stop (canV h49 h58 (m := 1) (foot0 := [1]) (runX_sound mixed none_sound (v_end (.osl 1 0 (AW L i tu i).length 9) x49 x58 i tu i 0 0 0 0 0 0 0 0 0 0 0 0 0 0 (.cells false (rowsOf callC (AW L i tu i))) .dead .dead (rowsOf callC L)) ⟨ltq i i false (by simp), trivial⟩) (by decide) rfl rfl ⟨.inr (.inl (freeCalls _)), .inr (.inr rfl), trivial⟩ rfl (show 2 ≤ 2 by decide) (fun b _ _ => rfl) ?_) (by simp)⟩
    unfold TV
    repeat (first | exact rfl | refine ⟨_, _, rfl, ?_, ?_⟩ | exact .inr ⟨rfl, rfl⟩ | exact .inl ⟨rfl, rfl⟩ | exact see_same _)
  | succ k ih =>
    intro i hk h0 hi x49 x58 h49 h58
    obtain ⟨y58, k58, g⟩ := v_step hL hn hs ht h0 (show i < n by omega) (x49 := x49) h58 rfl
    obtain ⟨z49, z58, l49, l58, g2⟩ := ih (i + 1) (by omega) (by omega) (by omega) (x49 := .agg (callC (atW L n tu i))) (x58 := y58) (.inr ⟨_, rfl⟩) k58
    exact ⟨z49, z58, l49, l58, Good.loop_next (show 0 < 2 by decide) (fun b o h hr => can_rw b o h hr) g g2⟩
theorem v_all {x49 x58 : AV} (h58 : X12 x58) : ∃ y49 y58, X12 y49 ∧ X12 y58 ∧
    Go.Mini.Good Try.prog [(0, rowsOf callC L)] (canS [] (rowsOf callC L) 1 1) [] (TV n .nilSlice x49 x58 tu 0) (.loop (loopAt Try.prog 6 0)) (.exit 0) (TV n (.osl 1 0 (AW L n tu n).length 9) y49 y58 tu n) (canS [(1, .cells false (rowsOf callC (AW L n tu n)))] (rowsOf callC L) 2 2) [1] := by
  obtain ⟨z49, z58, l49, l58, g2⟩ := v_tail hL hn hs ht (n - 1) 1 rfl (by decide) hn (x49 := .agg (callC (atW L n tu 0))) (x58 := x58) (.inr ⟨_, rfl⟩) h58
  exact ⟨z49, z58, l49, l58, Good.loop_next (show 0 < 2 by decide) (fun b o h hr => by simpa using can_rw (bsC := []) b o h hr) (v_first hL hn hs ht h58) g2⟩
end
end Go.Proofs.Ythooafgfpnedhaa.specsWitness
