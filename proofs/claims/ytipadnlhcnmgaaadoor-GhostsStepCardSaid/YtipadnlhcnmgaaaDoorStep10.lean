/- A row of ghosts as a slice. Conditions: those that each theorem names, and no others. -/
import Derived.Test.YtipadnlhcnmgaaaDoorStep9
namespace Go.Proofs.YtipadnlhcnmgaaaDoor.ghostsStep
open Go Go.Mini
def gh0 : Gh := ⟨0, 0, 0, 0, false⟩
def eL (L : List Gh) (k : Nat) : Gh := (L[k]?).getD gh0
theorem eL_at {L : List Gh} {k : Nat} (h : k < L.length) : L[k]? = some (eL L k) := by
  unfold eL
  rw [List.getElem?_eq_getElem h]
  rfl
theorem t54 : Tryd.prog.underlying 54 = some (.slice 61) := by kernel_rfl
theorem z61 : sizeA Tryd.prog 61 = some 5 := by kernel_rfl
theorem g61 : isAggA Tryd.prog 61 = some true := by kernel_rfl
theorem row_of {L : List Gh} {o n c : Nat} (h : o + n ≤ L.length) (hn : n < 1000) : Row (.slice 2 (o * 5) n c) n L (fun k => eL L (o + k)) where
  len s := by simp only [lenA, t54]; rfl
  at_ k hk := by
    refine ⟨o * 5 + k * 5, idx_slice t54 z61 hk, fun s ro hs => ?_⟩
    have := ld_row (P := Tryd.prog) (f := ghC) (n := 5) (t := 61) (fun _ => rfl) g61 z61 hs (eL_at (L := L) (k := o + k) (by omega))
    rwa [Nat.add_mul] at this
  small := hn
theorem on_rows2 {f : FuncId} {args : List AV} {L : List Gh} {r : Nat} (h : ∃ e s1, Sound Tryd.prog (.call f args (SL2 L)) ⟨e, [.int .u8 (Int.ofNat r)], s1⟩) (ha : namess (fun c => Nat.blt c 3) args = true) (s : AS) (ro : Bool) (hs : s.get 2 = some (.cells ro (rowsOf ghC L))) (hG : hasG s G2 = true) :
    Sound Tryd.prog (.call f args s) ⟨.ret, [.int .u8 (Int.ofNat r)], s⟩ := by
  obtain ⟨e, s1, h⟩ := h
  have hg : ∀ x ∈ G2, ∃ ro, s.get x.1 = some (.cells ro x.2) := fun x hx => by
    have := List.all_eq_true.1 hG x hx
    split at this
    · rename_i ro cs hcs
      exact ⟨ro, by rw [hcs, AV.beqs_eq this]⟩
    · cases this
  obtain ⟨r0, h0⟩ := hg (0, wf) (by simp [G2])
  obtain ⟨r1, h1⟩ := hg (1, lf) (by simp [G2])
  have := Sound.frame h (fun b => b) s (fun g hg => ⟨Nat.lt_of_lt_of_le hg (Nat.le_of_ble_eq_true (by kernel_rfl)), rfl⟩) (fun k hk => by
    have : k = 2 ∨ k = 0 ∨ k = 1 := by simpa [SL2] using hk
    show k < 3
    omega) (fun b o hb => ?_) ha rfl .ret
  · rwa [rens_id] at this
  · simp only [SL2, AS.get, getB] at hb
    split at hb
    · rename_i hb2
      have := Nat.eq_of_beq_eq_true hb2
      subst this
      simp only [Option.some.injEq] at hb
      subst hb
      exact ⟨_, ro, rfl, gh_names L, by rw [rens_id]; exact hs⟩
    · split at hb
      · rename_i hb2
        have := Nat.eq_of_beq_eq_true hb2
        subst this
        simp only [Option.some.injEq] at hb
        subst hb
        exact ⟨_, r0, rfl, by kernel_rfl, by rw [rens_id]; exact h0⟩
      · split at hb
        · rename_i hb2
          have := Nat.eq_of_beq_eq_true hb2
          subst this
          simp only [Option.some.injEq] at hb
          subst hb
          exact ⟨_, r1, rfl, by kernel_rfl, by rw [rens_id]; exact h1⟩
        · cases hb
end Go.Proofs.YtipadnlhcnmgaaaDoor.ghostsStep
