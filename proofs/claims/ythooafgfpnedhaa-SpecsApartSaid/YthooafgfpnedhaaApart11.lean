/- Rows that are appended to one another. Conditions: those that each theorem names, and no others. -/
import Derived.Test.YthooafgfpnedhaaApart10
namespace Go.Proofs.Ythooafgfpnedhaa.specsApart
open Go Go.Mini
section
variable {s : AS} {b b2 : Nat} {ro : Bool} {X Y : List Int}
theorem ones (L : List Int) : (uc L).all AV.one = true := by simp [uc, AV.one]
theorem first_r (h2 : s.get b2 = some (.cells ro (uc Y))) : firstA s 1 Y.length (.slice b2 0 Y.length Y.length) = some (uc Y) := by
  simp only [firstA, readA, h2, List.drop_zero, Nat.mul_one]
  exact takeN_all (by simp [uc])
theorem app_0 {x y : AV} (hx : x = .nilSlice ∨ ∃ b m, x = .osl b 0 m 1) (hl : sliceLen y = some 0) (hf : firstA s 1 0 y = some []) : appendA Try.prog s 30 30 x y = some (x, s) := by
  obtain ⟨elem, e2, i, z, size, u1, u2, u3, u4, u5, u0, u6, u7⟩ := rowT_inv (P := Try.prog) (t := 30) (t2 := 30) (n := 1) (by kernel_rfl)
  have hs0 : size = 0 := by omega
  subst hs0
  have h0 : Nat.beq 0 0 = true := rfl
  have h1 : Nat.beq 1 1 = true := rfl
  rcases hx with rfl | ⟨b, m, rfl⟩ <;>
    simp only [appendA, u1, u3, u4, u5, hl, u6, u7, Nat.zero_add, hf, h0, h1, List.all_nil, Bool.and_self, Bool.not_true, Bool.false_eq_true, if_false, if_true]
theorem beq0 {n : Nat} (h : n ≠ 0) : Nat.beq n 0 = false := by
  cases hh : Nat.beq n 0 with
  | false => rfl
  | true => exact absurd (Nat.eq_of_beq_eq_true hh) h
theorem app_1 (h2 : s.get b2 = some (.cells ro (uc Y))) (hn : Y.length ≠ 0) (hs : Y.length < 1000) : appendA Try.prog s 30 30 .nilSlice (.slice b2 0 Y.length Y.length) = some (.osl s.nx 0 Y.length 1, s.push (.cells false (uc Y))) := by
  obtain ⟨elem, e2, i, z, size, u1, u2, u3, u4, u5, u0, u6, u7⟩ := rowT_inv (P := Try.prog) (t := 30) (t2 := 30) (n := 1) (by kernel_rfl)
  have hs0 : size = 0 := by omega
  subst hs0
  have hsm : small Y.length = true := by
    unfold small
    exact Nat.ble_eq_true_of_le (by omega)
  simp only [appendA, u1, u3, u4, u5, sliceLen, u6, u7, Nat.zero_add, first_r h2, ones, beq0 hn, hsm, Bool.and_self, Bool.not_true, Bool.false_eq_true, if_false, if_true]
theorem app_2 (hb : s.get b = some (.cells false (uc X))) (h2 : s.get b2 = some (.cells ro (uc Y))) (hn : Y.length ≠ 0) (hs : X.length + Y.length < 1000) : appendA Try.prog s 30 30 (.osl b 0 X.length 1) (.slice b2 0 Y.length Y.length) = some (.osl s.nx 0 (X.length + Y.length) 1, (s.set b .dead).push (.cells false (uc (X ++ Y)))) := by
  obtain ⟨elem, e2, i, z, size, u1, u2, u3, u4, u5, u0, u6, u7⟩ := rowT_inv (P := Try.prog) (t := 30) (t2 := 30) (n := 1) (by kernel_rfl)
  have hs0 : size = 0 := by omega
  subst hs0
  have hsm : small (X.length + Y.length) = true := by
    unfold small
    exact Nat.ble_eq_true_of_le (by omega)
  have hd : readA s b 0 (X.length * 1) = some (uc X) := by
    simp only [readA, hb, List.drop_zero]
    exact takeN_all (by simp [uc])
  have hw : rwAt s b = true := by simp only [rwAt, hb]
  have h1 : Nat.beq 1 1 = true := rfl
  simp only [appendA, u1, u3, u4, u5, sliceLen, u6, u7, Nat.zero_add, first_r h2, ones, beq0 hn, hsm, hd, hw, h1, Bool.and_self, Bool.not_true, Bool.false_eq_true, if_false, if_true]
  simp only [uc, List.map_append]
end
theorem len_nil (s : AS) : lenA Try.prog s 30 .nilSlice = some (.int .i64 (Int.ofNat 0)) := by simp only [lenA, t30]; rfl
theorem len_osl (s : AS) (b o n : Nat) : lenA Try.prog s 30 (.osl b o n 1) = some (.int .i64 (Int.ofNat n)) := by simp only [lenA, t30]; rfl
def TZ : List AV := uu :: uu :: .bool true :: List.replicate 162 uu
end Go.Proofs.Ythooafgfpnedhaa.specsApart
