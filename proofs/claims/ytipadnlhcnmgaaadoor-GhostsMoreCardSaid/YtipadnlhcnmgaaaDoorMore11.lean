/- A row of ghosts as a slice; what the steps of the law are, in all cases. Conditions: those that each theorem names, and no others. -/
import Derived.Test.YtipadnlhcnmgaaaDoorMore10
namespace Go.Proofs.YtipadnlhcnmgaaaDoor.ghostsMore
open Go Go.Mini
def gh0 : Gh := ⟨0, 0, 0, 0, false⟩
def eL (L : List Gh) (k : Nat) : Gh := (L[k]?).getD gh0
theorem eL_at {L : List Gh} {k : Nat} (h : k < L.length) : L[k]? = some (eL L k) := by
  unfold eL
  rw [List.getElem?_eq_getElem h]
  rfl
theorem t54 : Tryd.prog.underlying 54 = some (.slice 61) := by kernel_rfl
theorem z61 : sizeA Tryd.prog 61 = some 5 := by kernel_rfl
theorem g61 : isAggA Tryd.prog 61 = some true := by kernel_rfl
theorem row_of {L : List Gh} {o n c : Nat} (h : o + n ≤ L.length) (hn : n < 1000) : Row (.slice 2 (o * 5) n c) n L (fun k => eL L (o + k)) where
  len s := by simp only [lenA, t54]; rfl
  at_ k hk := by
    refine ⟨o * 5 + k * 5, idx_slice t54 z61 hk, fun s ro hs => ?_⟩
    have := ld_row (P := Tryd.prog) (f := ghC) (n := 5) (t := 61) (fun _ => rfl) g61 z61 hs (eL_at (L := L) (k := o + k) (by omega))
    rwa [Nat.add_mul] at this
  small := hn
theorem on_rows2 {f : FuncId} {args : List AV} {L : List Gh} {r : Nat} (h : ∃ e s1, Sound Tryd.prog (.call f args (SL2 L)) ⟨e, [.int .u8 (Int.ofNat r)], s1⟩) (ha : namess (fun c => Nat.blt c 3) args = true) (s : AS) (ro : Bool) (hs : s.get 2 = some (.cells ro (rowsOf ghC L))) (hG : hasG s G2 = true) :
    Sound Tryd.prog (.call f args s) ⟨.ret, [.int .u8 (Int.ofNat r)], s⟩ := by
  obtain ⟨e, s1, h⟩ := h
  have hg : ∀ x ∈ G2, ∃ ro, s.get x.1 = some (.cells ro x.2) := fun x hx => by
    have := List.all_eq_true.1 hG x hx
    split at this
    · rename_i ro cs hcs
      exact ⟨ro, by rw [hcs, AV.beqs_eq this]⟩
    · cases this
  obtain ⟨r0, h0⟩ := hg (0, wf) (by simp [G2])
  obtain ⟨r1, h1⟩ := hg (1, lf) (by simp [G2])
  have := Sound.frame h (fun b => b) s (fun g hg => ⟨Nat.lt_of_lt_of_le hg (Nat.le_of_ble_eq_true (by kernel_rfl)), rfl⟩) (fun k hk => by
    have : k = 2 ∨ k = 0 ∨ k = 1 := by simpa [SL2] using hk
    show k < 3
    omega) (fun b o hb => ?_) ha rfl .ret
  · rwa [rens_id] at this
  · simp only [SL2, AS.get, getB] at hb
    split at hb
    · rename_i hb2
      have := Nat.eq_of_beq_eq_true hb2
      subst this
      simp only [Option.some.injEq] at hb
      subst hb
      exact ⟨_, ro, rfl, gh_names L, by rw [rens_id]; exact hs⟩
    · split at hb
      · rename_i hb2
        have := Nat.eq_of_beq_eq_true hb2
        subst this
        simp only [Option.some.injEq] at hb
        subst hb
        exact ⟨_, r0, rfl, by kernel_rfl, by rw [rens_id]; exact h0⟩
      · split at hb
        · rename_i hb2
          have := Nat.eq_of_beq_eq_true hb2
          subst this
          simp only [Option.some.injEq] at hb
          subst hb
          exact ⟨_, r1, rfl, by kernel_rfl, by rw [rens_id]; exact h1⟩
        · cases hb
/-- What the steps of the law are, in all cases: one thing where something holds, else another one. -/
theorem kinds (a : Ac) (m : Nat) (P Q : Nat → Bool) (d : Bool) : ∃ (w r0 : Nat) (b : Nat → Bool), w ≠ r0 ∧ (r0 = 0 ∨ r0 = 1) ∧ stF a m false false = r0 ∧
    (∀ k, stF a m (anyK (fun i => P (k + i)) 1) (d && anyK (fun i => Q (k + i)) 1) = if b k = true then w else r0) ∧
    (∀ k, stF a m (anyK (fun i => P (0 + i)) k) (d && anyK (fun i => Q (0 + i)) k) = if anyK b k = true then w else r0) := by
  have any0 : ∀ k, anyK (fun _ => false) k = false := fun k => by unfold anyK; simp
  have one : ∀ (R : Nat → Bool) (k : Nat), anyK (fun i => R (k + i)) 1 = R k := fun R k => by unfold anyK; simp [List.range'_succ]
  have zer : ∀ (R : Nat → Bool), (fun i => R (0 + i)) = R := fun R => funext fun i => by rw [Nat.zero_add]
  by_cases hb : hdrB a = true
  · by_cases c0 : ofF a.wa a.nw m = 0
    · refine ⟨0, 1, fun _ => false, by omega, .inr rfl, ?_, fun k => ?_, fun k => ?_⟩ <;> simp [stF, hb, c0, any0]
    · by_cases c3 : ofF a.wa a.nw m = 3 ∨ ofF a.wa a.nw m = 4 ∨ ofF a.wa a.nw m = 5
      · refine ⟨2, 0, P, by omega, .inl rfl, ?_, fun k => ?_, fun k => ?_⟩
        · simp [stF, hb, c0]
        · rw [one]; simp [stF, hb, c0, c3]
        · rw [zer]; simp [stF, hb, c0, c3]
      · refine ⟨1, 0, fun _ => false, by omega, .inl rfl, ?_, fun k => ?_, fun k => ?_⟩ <;> simp [stF, hb, c0, c3, any0]
  · by_cases k6 : a.ak = 6 ∧ a.fd = 0 ∧ a.wa ≠ a.nw ∧ a.nw = 0
    · obtain ⟨h1, h2, h3, h4⟩ := k6
      cases d with
      | false => refine ⟨1, 0, fun _ => false, by omega, .inl rfl, ?_, fun k => ?_, fun k => ?_⟩ <;> simp [stF, hb, any0]
      | true =>
        have h5 : a.wa ≠ 0 := by omega
        refine ⟨3, 0, Q, by omega, .inl rfl, ?_, fun k => ?_, fun k => ?_⟩
        · simp [stF, hb]
        · rw [one P, one Q]; simp [stF, hb, h1, h2, h4, h5]
        · rw [zer P, zer Q]; simp [stF, hb, h1, h2, h4, h5]
    · have no : ∀ x y, stF a m x y = 0 := fun x y => by
        unfold stF
        rw [if_neg hb, if_neg (fun h => k6 ⟨h.1, h.2.1, h.2.2.1, h.2.2.2.1⟩)]
      refine ⟨1, 0, fun _ => false, by omega, .inl rfl, no _ _, fun k => ?_, fun k => ?_⟩ <;> simp [no, any0]
theorem anyK_succ (b : Nat → Bool) (k : Nat) : anyK b (k + 1) = (anyK b k || b k) := by
  unfold anyK
  rw [List.range'_concat, List.any_append]
  simp
theorem anyK_of {b : Nat → Bool} {k n : Nat} (h : k < n) (hb : b k = true) : anyK b n = true := by
  unfold anyK
  rw [List.any_eq_true]
  exact ⟨k, by simp; omega, hb⟩
theorem anyK_mono {b : Nat → Bool} {k n : Nat} (h : k ≤ n) (hb : anyK b k = true) : anyK b n = true := by
  unfold anyK at hb ⊢
  rw [List.any_eq_true] at hb ⊢
  obtain ⟨i, h1, h2⟩ := hb
  exact ⟨i, by simp at h1 ⊢; omega, h2⟩
end Go.Proofs.YtipadnlhcnmgaaaDoor.ghostsMore
