/- A row of ghosts that came in. Conditions: those that each theorem names, and no others. -/
import Derived.Test.YtipadnlhcnmgaaaDoorStep12
namespace Go.Proofs.YtipadnlhcnmgaaaDoor.ghostsStep
open Go Go.Mini
def ghK : List Kc := [.int .i64, .int .i64, .int .i64, .int .u32, .bool]
theorem rows_gh : ∀ (rows : List (List SD)) (s : AS), Tyss rows ghK → ∃ L : List Gh, absRows rows s = (rowsOf ghC L, s) ∧ L.length = rows.length ∧ ∀ x ∈ L, x.sl < 9223372036854775808
  | [], s, _ => ⟨[], rfl, rfl, by simp⟩
  | r :: rs, s, h => by
    obtain ⟨h1, h2⟩ := h
    obtain ⟨L, e1, e2, e3⟩ := rows_gh rs s h2
    match r, h1 with
    | [x1, x2, x3, x4, x5], ⟨k1, k2, k3, k4, k5, _⟩ =>
      cases x1 <;> simp only [Ty] at k1
      cases x2 <;> simp only [Ty] at k2
      cases x3 <;> simp only [Ty] at k3
      cases x4 <;> simp only [Ty] at k4
      cases x5 <;> simp only [Ty] at k5
      obtain ⟨rfl, w1⟩ := k1
      obtain ⟨rfl, w2⟩ := k2
      obtain ⟨rfl, w3⟩ := k3
      obtain ⟨rfl, w4⟩ := k4
      rename_i n1 n2 n3 n4 b5
      have b3 := bounds_i64 w3
      have b4 := bounds_u32 w4
      refine ⟨⟨n1, n2, n3, n4.toNat, b5⟩ :: L, ?_, by simp [e2], fun x hx => ?_⟩
      · have hn4 : Int.ofNat n4.toNat = n4 := by simp only [Int.ofNat_eq_natCast]; omega
        show ((absCs [.i .i64 n1, .i .i64 n2, .i .i64 n3, .i .u32 n4, .b b5] s).1 ++ (absRows rs (absCs [.i .i64 n1, .i .i64 n2, .i .i64 n3, .i .u32 n4, .b b5] s).2).1, (absRows rs (absCs [.i .i64 n1, .i .i64 n2, .i .i64 n3, .i .u32 n4, .b b5] s).2).2) = _
        have e4 : absCs [.i .i64 n1, .i .i64 n2, .i .i64 n3, .i .u32 n4, .b b5] s = (ghC ⟨n1, n2, n3, n4.toNat, b5⟩, s) := by
          simp only [absCs, absC, ghC, hn4]
        rw [e4]
        simp only [e1]
        rfl
      · rcases List.mem_cons.1 hx with rfl | hx
        · show n3 < _
          omega
        · exact e3 x hx
theorem eL_lt {L : List Gh} (h : ∀ x ∈ L, x.sl < 9223372036854775808) (k : Nat) : (eL L k).sl < 9223372036854775808 := by
  unfold eL
  cases hk : L[k]? with
  | none => show (0 : Int) < _; omega
  | some x => exact h x (List.mem_of_getElem? hk)
end Go.Proofs.YtipadnlhcnmgaaaDoor.ghostsStep
