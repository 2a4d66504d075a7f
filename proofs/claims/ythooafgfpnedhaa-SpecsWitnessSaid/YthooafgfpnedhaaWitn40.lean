/- The law SpecsWitness answers true, the main way. Conditions: those that each theorem names, and no others. -/
import Derived.Test.YthooafgfpnedhaaWitn39
namespace Go.Proofs.Ythooafgfpnedhaa.specsWitness
open Go Go.Mini
def TVr (n tu : Nat) : List AV := uu :: uu :: .int .u8 (Int.ofNat tu) :: uu :: uu :: uu :: .bool false :: .osl 2 0 n 9 :: uu :: .nilSlice :: .int .i64 (Int.ofNat 0) :: List.replicate 38 uu ++ [undefA] ++ List.replicate 8 uu ++ [undefA] ++ List.replicate 86 uu
theorem rens_TV0 (n tu : Nat) : rens (fun _ => 2) (TV n .nilSlice undefA undefA tu 0) = TVr n tu := by
  show [uu, uu, .int .u8 (Int.ofNat tu), uu, uu, uu, .bool false, .osl 2 0 n 9, uu, .nilSlice, .int .i64 (Int.ofNat 0)] ++ rens (fun _ => 2) (List.replicate 38 uu) ++ [undefA] ++ rens (fun _ => 2) (List.replicate 8 uu) ++ [undefA] ++ rens (fun _ => 2) (List.replicate 86 uu) = _
  rw [rensW, rensW, rensW]
  rfl
section
variable {lA tA : AV} {n nt : Nat} {row trow : List AV} {f : Nat → Do3} {τ : Nat → Nat} (W : RwD lA n row f) (W2 : RwT tA nt trow τ)
include W W2
theorem wt_main (hn : 0 < n) (hnt : nt ≤ 60) (tu : Nat) (ht : tu ≤ 255) :
    ∃ e s1, Sound Try.prog (.call 6 [lA, tA.ren (fun _ => 1), .int .u8 (Int.ofNat tu)] ⟨⟨[(1, .cells true trow), (0, .cells true row)], 2, none, []⟩, 2⟩) ⟨e, [.bool true], s1⟩ := by
  have hsm := W.small
  obtain ⟨m, rfl⟩ : ∃ m, n = m + 1 := ⟨n - 1, by omega⟩
  have hlA : lA.ren (fun _ => 0) = lA := W.xr _ rfl
  have hmade : ∀ s : AS, s.get 0 = some (.cells true row) → s.get 1 = some (.cells true trow) → Sound Try.prog (.call 24 [lA, tA.ren (fun _ => 1)] s) ⟨.ret, [.tuple [.osl s.nx 0 (m + 1) 9, .osl (s.nx + 1) 0 (m + 1) 1]], (s.push (.cells false (rowsOf callC (LF f τ (m + 1))))).push (oMR (m + 1))⟩ := fun s h0 h1 => by
    have := madeC W W2 h0 h1
    rw [hlA] at this
    exact this
  have hlen : ∀ s, lenA Try.prog s 65 (tA.ren (fun _ => 1)) = some (.int .i64 (Int.ofNat nt)) := fun s => by
    rcases W2.kind with hk | ⟨c, hk⟩
    · have := W2.len s
      rw [hk] at this ⊢
      exact this
    · rw [hk]
      exact len65 s 1 nt c
  have nT : junkOf (tA.ren fun _ => 1) = uu ∧ junkable (tA.ren fun _ => 1) = true := by
    rcases W2.kind with hk | ⟨c, hk⟩ <;> rw [hk] <;> exact ⟨rfl, rfl⟩
  have g1 := gtq (m + 1) 60 false (by simp; omega)
  have g2 := gtq nt 60 false (by simp; omega)
  obtain ⟨y49, y58, k49, k58, l1⟩ := loop1C (L := LF f τ (m + 1)) (n := m + 1) (tu := tu) (LF_len f τ (m + 1)) hn hsm ht (x49 := undefA) (x58 := undefA) (.inl rfl) (s := ⟨⟨[(3, oMR (m + 1)), (2, .cells false (rowsOf callC (LF f τ (m + 1)))), (1, .cells true trow), (0, .cells true row)], 4, none, []⟩, 4⟩) (ro := false) rfl rfl rfl
  have hop := opA (f := f) (τ := τ) (n := m + 1) (tu := tu) (m + 1)
  have hAl := (AW_len (LF f τ (m + 1)) (m + 1) tu (m + 1)).2
  have hget := fun k (hk : k < m + 1) => AQ (f := f) (τ := τ) (n := m + 1) (tu := tu) (k := k) hk
  have hline := fun D => line_turn (f := f) (τ := τ) (n := m + 1) (tu := tu) hn (D := D)
  unfold LV at hline
  generalize AW (LF f τ (m + 1)) (m + 1) tu (m + 1) = A at l1 hop hAl hget hline
  generalize QW (LF f τ (m + 1)) (m + 1) tu = Q at hget hline
  have hAs : A.length ≤ 1000 := by omega
  obtain ⟨D1, p1, p2, hj⟩ := judgeC (rwc_osl A hAs) (opN := fun d => ((A[d]?).getD z9).2.1.toNat) (fun d hd => by
    rw [List.getElem?_eq_getElem hd]
    exact hop _ (List.getElem_mem hd))
  obtain ⟨D2, q1, q2, hw⟩ := witC (rwc_osl A hAs)
  have e1 := hline D1 p1 p2
  have e2 := hline D2 q1 q2
  have hD : D2.length = m + 1 := by rw [e2]; simp
  have hD0 : D2 ≠ [] := fun h => by
    rw [h] at hD
    cases hD
  have hk : ∀ k, k < m + 1 → D2[k]? = some (Q k) := fun k hk => by
    rw [e2]
    simp [hk]
  have ej : judgeL (fun d => (A[d]?).getD z9) (fun d => ((A[d]?).getD z9).2.1.toNat) D1 ([], [], []) = none := by
    rw [e1, List.range_eq_range']
    exact judge_turn (f := f) (τ := τ) (n := m + 1) (fun d hd => by rw [hget d hd]; rfl) (fun d hd => by rw [hget d hd]; rfl) (m + 1) 0 rfl
  have hj1 := fun s (h : s.get 4 = some (.cells false (rowsOf callC A))) => hj s false 4 h
  rw [ej] at hj1
  have hw1 := fun s (h : s.get 4 = some (.cells false (rowsOf callC A))) => hw s false 4 h
  rw [show oWit D2 = .cells false (nc D2) from if_neg hD0] at hw1
  unfold wv at hw1
  simp only [if_neg hD0, hD] at hw1
  obtain ⟨y108, y112, y126, y133, u15, _, _, _, _, l2⟩ := loop2 (D := D2) (A := A) (L := LF f τ (m + 1)) (oR := oMR (m + 1)) (o1 := .cells true trow) (o0 := .cells true row) (n := m + 1) (N := A.length) (Z := callM f τ) rfl hsm (fun k h => ⟨Q k, hk k h, hget k h⟩) (fun k h => by simp [LF, h]) (fun k i h _ => F_ok h) (freeRow _) W2.nm W.nm (x49 := y49) (x58 := y58) (.inr k49) (.inr k58) (m + 1) 0 rfl (Nat.zero_le _) (x108 := uu) (x112 := uu) (x126 := uu) (x133 := uu) (t15 := uu) (.inl rfl) (.inl rfl) (.inl rfl) (.inl rfl) (.inl rfl)
  refine ⟨_, _, runX_sound mixed none_sound (w_main lA (tA.ren fun _ => 1) y49 y58 y108 y112 y126 y133 u15 (m + 1) nt A.length tu (.cells true row) (.cells true trow) (.cells false (rowsOf callC (LF f τ (m + 1)))) (oMR (m + 1)) (.cells false (nc D2)) (.cells false (rowsOf callC A))) ⟨W.len _, g1, hlen _, g2, hmade _ rfl rfl, Sound.enter l1 ?_, hj1 _ rfl, hw1 _ rfl, bq (by simp), Sound.enter (l2 none none []) ?_, livC _, trivial⟩⟩
  · rw [rens_TV0]
    unfold TVr
    repeat (first | exact rfl | refine ⟨_, _, rfl, ?_, ?_⟩ | exact .inr ⟨rfl, rfl⟩ | exact .inl ⟨rfl, rfl⟩ | exact .inl ⟨W.na.1.symm, W.na.2⟩ | exact .inl ⟨nT.1.symm, nT.2⟩ | exact see_same _)
  · unfold TI
    repeat (first | exact rfl | refine ⟨_, _, rfl, ?_, ?_⟩ | exact .inr ⟨rfl, rfl⟩ | exact .inl ⟨rfl, rfl⟩ | exact see_same _)
end
end Go.Proofs.Ythooafgfpnedhaa.specsWitness
