/- One step of the first loop of the law. Conditions: those that each theorem names, and no others. -/
import Derived.Test.YthooafgfpnedhaaWitn32
namespace Go.Proofs.Ythooafgfpnedhaa.specsWitness
open Go Go.Mini
section
variable {L : List Call9} {n tu : Nat} (hL : L.length = n) (hn : 0 < n) (hs : n ≤ 60) (ht : tu ≤ 255)
include hL hn hs ht
omit hs ht in
theorem at_W {i : Nat} : L[(i + tu) % n]? = some (atW L n tu i) := by
  have h := Nat.mod_lt (i + tu) hn
  unfold atW
  rw [List.getElem?_eq_getElem (by rw [hL]; exact h)]
  rfl
theorem v_first {x49 x58 : AV} (h58 : X12 x58) :
    Go.Mini.Good Try.prog [(0, rowsOf callC L)] (canS [] (rowsOf callC L) 1 1) [] (TV n .nilSlice x49 x58 tu 0) (loopAt Try.prog 6 0) .normal (TV n (.osl 1 0 (AW L n tu 1).length 9) (.agg (callC (atW L n tu 0))) x58 tu 1) (canS [(1, .cells false (rowsOf callC (AW L n tu 1)))] (rowsOf callC L) 2 2) [1] := by
  obtain ⟨m, rfl⟩ : ∃ m, n = m + 1 := ⟨n - 1, by omega⟩
  have hz := at_W hL hn (i := 0) (tu := tu)
  have hj := Nat.mod_lt (0 + tu) hn
  have run := runX_sound mixed none_sound (v_n .nilSlice x49 x58 (m + 1) tu 0 (0 + tu) ((0 + tu) % (m + 1)) ((0 + tu) % (m + 1) * 9) 0 0 (atW L (m + 1) tu 0).1 (atW L (m + 1) tu 0).2.1 (atW L (m + 1) tu 0).2.2.1 (atW L (m + 1) tu 0).2.2.2.1 (atW L (m + 1) tu 0).2.2.2.2.1 (atW L (m + 1) tu 0).2.2.2.2.2.1 (atW L (m + 1) tu 0).2.2.2.2.2.2.1 (atW L (m + 1) tu 0).2.2.2.2.2.2.2.1 (atW L (m + 1) tu 0).2.2.2.2.2.2.2.2 .dead .dead .dead (rowsOf callC L)) ⟨ltq 0 (m + 1) true (by simp), wq _ rfl (by omega), wq _ rfl (by omega), remq' hn rfl, idx50 hj, ld_row (f := callC) (n := 9) (fun _ => rfl) a56 s56 (s := canS [] (rowsOf callC L) 1 1) (ro := true) rfl hz, rfl, eqN (by simp), wq _ rfl (by omega), trivial⟩
  refine canV (A := AW L (m + 1) tu 1) (m := 2) (.inr ⟨_, rfl⟩) h58 run (by decide) rfl rfl ⟨.inr (.inl ⟨rfl, rfl⟩), .inr (.inl ⟨rfl, rfl⟩), .inr (.inr rfl), trivial⟩ rfl (show 1 ≤ 3 by decide) (fun b h1 _ => by
    have h1 : b < 1 := h1
    have : b = 0 := by omega
    subst this
    rfl) ?_
  unfold TV
  repeat (first | exact rfl | refine ⟨_, _, rfl, ?_, ?_⟩ | exact .inr ⟨rfl, rfl⟩ | exact .inl ⟨rfl, rfl⟩ | exact see_same _)
theorem v_step {i : Nat} (h0 : 0 < i) (hi : i < n) {x49 x58 : AV} {oA : AObj} (h58 : X12 x58) (hA : oA = .cells false (rowsOf callC (AW L n tu i))) : ∃ y58, X12 y58 ∧
    Go.Mini.Good Try.prog [(0, rowsOf callC L)] (canS [(1, oA)] (rowsOf callC L) 2 2) [1] (TV n (.osl 1 0 (AW L n tu i).length 9) x49 x58 tu i) (loopAt Try.prog 6 0) .normal (TV n (.osl 1 0 (AW L n tu (i + 1)).length 9) (.agg (callC (atW L n tu i))) y58 tu (i + 1)) (canS [(1, .cells false (rowsOf callC (AW L n tu (i + 1))))] (rowsOf callC L) 2 2) [1] := by
  subst hA
  obtain ⟨m, rfl⟩ : ∃ m, n = m + 1 := ⟨n - 1, by omega⟩
  have hz := at_W hL hn (i := i) (tu := tu)
  have hj := Nat.mod_lt (i + tu) hn
  have hlen := (AW_len L (m + 1) tu i).2
  have a1 := ltq i (m + 1) true (by simpa using hi)
  have a2 := wq (n := tu) (Int.ofNat tu) rfl (by omega)
  have a3 := wq (n := i + tu) (Int.ofNat (i + tu)) rfl (by omega)
  have a4 := wq (n := i + 1) (Int.ofNat (i + 1)) rfl (by omega)
  by_cases h5 : i % 5 = 4
  · have e1 : AW L (m + 1) tu (i + 1) = AW L (m + 1) tu i ++ [atW L (m + 1) tu i] ++ [refC i] := by
      show AW L (m + 1) tu i ++ [atW L (m + 1) tu i] ++ (if i % 5 = 4 then [refC i] else []) = _
      rw [if_pos h5]
    have e2 : (AW L (m + 1) tu (i + 1)).length = (AW L (m + 1) tu i).length + 2 := by rw [e1]; simp
    have e3 : (AW L (m + 1) tu i ++ [atW L (m + 1) tu i]).length = (AW L (m + 1) tu i).length + 1 := by simp
    have k2 := fun s ro hb h2 => app_calls (s := s) (b := 3) (b2 := 4) (ro := ro) (L := AW L (m + 1) tu i ++ [atW L (m + 1) tu i]) (z := refC i) hb h2 (by rw [e3]; omega)
    rw [e3] at k2
    refine ⟨.agg (callC (refC i)), .inr ⟨_, rfl⟩, ?_⟩
    have run := runX_sound mixed none_sound (v_r .nilSlice x49 x58 (m + 1) tu i (i + tu) ((i + tu) % (m + 1)) ((i + tu) % (m + 1) * 9) (AW L (m + 1) tu i).length (i % 5) (atW L (m + 1) tu i).1 (atW L (m + 1) tu i).2.1 (atW L (m + 1) tu i).2.2.1 (atW L (m + 1) tu i).2.2.2.1 (atW L (m + 1) tu i).2.2.2.2.1 (atW L (m + 1) tu i).2.2.2.2.2.1 (atW L (m + 1) tu i).2.2.2.2.2.2.1 (atW L (m + 1) tu i).2.2.2.2.2.2.2.1 (atW L (m + 1) tu i).2.2.2.2.2.2.2.2 (.cells false (rowsOf callC (AW L (m + 1) tu i))) (.cells false (rowsOf callC (AW L (m + 1) tu i ++ [atW L (m + 1) tu i]))) (.cells false (rowsOf callC (AW L (m + 1) tu i ++ [atW L (m + 1) tu i] ++ [refC i]))) (rowsOf callC L)) ⟨a1, a2, a3, remq' hn rfl, idx50 hj, ld_row (f := callC) (n := 9) (fun _ => rfl) a56 s56 (ro := true) rfl hz, app_calls (ro := false) (z := atW L (m + 1) tu i) rfl rfl (by omega), rfl, eqN (by simpa using h5), k2 _ false rfl rfl, a4, trivial⟩
    rw [e2]
    rw [← e1] at run
    have cv := canV (i := i + 1) (A := AW L (m + 1) tu (i + 1)) (tu := tu) (n := m + 1) (m := 5) (.inr ⟨atW L (m + 1) tu i, rfl⟩) (.inr ⟨refC i, rfl⟩) run (by decide) rfl rfl ⟨.inr (.inl (freeCalls _)), .inr (.inl ⟨rfl, rfl⟩), .inl rfl, .inr (.inl ⟨rfl, rfl⟩), .inl rfl, .inr (.inr rfl), trivial⟩ rfl (show 2 ≤ 6 by decide) (foot0 := [1]) (fun b h1 h2 => by
      have h1 : b < 2 := h1
      have : b = 0 := by
        simp at h2
        omega
      subst this
      rfl)
    rw [e2] at cv
    refine cv ?_
    unfold TV
    repeat (first | exact rfl | refine ⟨_, _, rfl, ?_, ?_⟩ | exact .inr ⟨rfl, rfl⟩ | exact .inl ⟨rfl, rfl⟩ | exact see_same _)
  · have e1 : AW L (m + 1) tu (i + 1) = AW L (m + 1) tu i ++ [atW L (m + 1) tu i] := by
      show AW L (m + 1) tu i ++ [atW L (m + 1) tu i] ++ (if i % 5 = 4 then [refC i] else []) = _
      rw [if_neg h5, List.append_nil]
    have e2 : (AW L (m + 1) tu (i + 1)).length = (AW L (m + 1) tu i).length + 1 := by rw [e1]; simp
    refine ⟨x58, h58, ?_⟩
    have run := runX_sound mixed none_sound (v_s .nilSlice x49 x58 (m + 1) tu i (i + tu) ((i + tu) % (m + 1)) ((i + tu) % (m + 1) * 9) (AW L (m + 1) tu i).length (i % 5) (atW L (m + 1) tu i).1 (atW L (m + 1) tu i).2.1 (atW L (m + 1) tu i).2.2.1 (atW L (m + 1) tu i).2.2.2.1 (atW L (m + 1) tu i).2.2.2.2.1 (atW L (m + 1) tu i).2.2.2.2.2.1 (atW L (m + 1) tu i).2.2.2.2.2.2.1 (atW L (m + 1) tu i).2.2.2.2.2.2.2.1 (atW L (m + 1) tu i).2.2.2.2.2.2.2.2 (.cells false (rowsOf callC (AW L (m + 1) tu i))) (.cells false (rowsOf callC (AW L (m + 1) tu i ++ [atW L (m + 1) tu i]))) .dead (rowsOf callC L)) ⟨a1, a2, a3, remq' hn rfl, idx50 hj, ld_row (f := callC) (n := 9) (fun _ => rfl) a56 s56 (ro := true) rfl hz, app_calls (ro := false) (z := atW L (m + 1) tu i) rfl rfl (by omega), rfl, eqN (by simpa using h5), a4, trivial⟩
    rw [← e1] at run
    have cv := canV (i := i + 1) (A := AW L (m + 1) tu (i + 1)) (tu := tu) (n := m + 1) (m := 3) (x58 := x58) (.inr ⟨atW L (m + 1) tu i, rfl⟩) h58 run (by decide) rfl rfl ⟨.inr (.inl (freeCalls _)), .inr (.inl ⟨rfl, rfl⟩), .inl rfl, .inr (.inr rfl), trivial⟩ rfl (show 2 ≤ 4 by decide) (foot0 := [1]) (fun b h1 h2 => by
      have h1 : b < 2 := h1
      have : b = 0 := by
        simp at h2
        omega
      subst this
      rfl)
    rw [e2] at cv
    rw [e2]
    refine cv ?_
    unfold TV
    repeat (first | exact rfl | refine ⟨_, _, rfl, ?_, ?_⟩ | exact .inr ⟨rfl, rfl⟩ | exact .inl ⟨rfl, rfl⟩ | exact see_same _)
end
end Go.Proofs.Ythooafgfpnedhaa.specsWitness
