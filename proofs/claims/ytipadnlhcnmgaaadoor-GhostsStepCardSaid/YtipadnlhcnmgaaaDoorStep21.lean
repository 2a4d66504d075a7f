/- The law GhostsStep answers true, for all arguments. Conditions: those that each theorem names, and no others. -/
import Derived.Test.YtipadnlhcnmgaaaDoorStep20
namespace Go.Proofs.YtipadnlhcnmgaaaDoor.ghostsStep
open Go Go.Mini
def spks : List Pk := [⟨true, [.int .u8, .int .u8, .int .i64, .int .i64, .int .u64, .int .u64, .bool]⟩, ⟨false, [.sl ghK]⟩, ⟨true, [.int .i64, .int .u32, .bool, .int .u64, .int .i64, .int .u32]⟩]
theorem smain (xs : List (Bool × List SD)) (h : Fits xs spks) : ∃ e s1, Sound Tryd.prog (.call 7 (absArgs xs (startS Tryd.prog G2)).1 (absArgs xs (startS Tryd.prog G2)).2) ⟨e, [.bool true], s1⟩ := by
  match xs, h with
  | [(a, [x1, x2, x3, x4, x5, x6, x7]), (b, [y]), (c, [z1, z2, z3, z4, z5, z6])], ⟨h1, ⟨k1, k2, k3, k4, k5, k6, k7, _⟩, h3, ⟨h4, _⟩, h5, ⟨m1, m2, m3, m4, m5, m6, _⟩, _⟩ =>
    simp only at h1 k1 k2 k3 k4 k5 k6 k7 h3 h4 h5 m1 m2 m3 m4 m5 m6
    subst h1 h3 h5
    cases x1 <;> simp only [Ty] at k1
    cases x2 <;> simp only [Ty] at k2
    cases x3 <;> simp only [Ty] at k3
    cases x4 <;> simp only [Ty] at k4
    cases x5 <;> simp only [Ty] at k5
    cases x6 <;> simp only [Ty] at k6
    cases x7 <;> simp only [Ty] at k7
    cases z1 <;> simp only [Ty] at m1
    cases z2 <;> simp only [Ty] at m2
    cases z3 <;> simp only [Ty] at m3
    cases z4 <;> simp only [Ty] at m4
    cases z5 <;> simp only [Ty] at m5
    cases z6 <;> simp only [Ty] at m6
    obtain ⟨rfl, w1⟩ := k1
    obtain ⟨rfl, w2⟩ := k2
    obtain ⟨rfl, w3⟩ := k3
    obtain ⟨rfl, w4⟩ := k4
    obtain ⟨rfl, w5⟩ := k5
    obtain ⟨rfl, w6⟩ := k6
    obtain ⟨rfl, v1⟩ := m1
    obtain ⟨rfl, v2⟩ := m2
    obtain ⟨rfl, v4⟩ := m4
    obtain ⟨rfl, v5⟩ := m5
    obtain ⟨rfl, v6⟩ := m6
    rename_i n1 n2 n3 n4 n5 n6 b7 r1 r2 r3 r4 r5 r6
    have c5 := bounds_u64 w5
    have c6 := bounds_u64 w6
    have d2 := bounds_u32 v2
    have d4 := bounds_u64 v4
    have d6 := bounds_u32 v6
    obtain ⟨wa, rfl⟩ : ∃ n : Nat, n5 = Int.ofNat n := ⟨n5.toNat, by simp only [Int.ofNat_eq_natCast]; omega⟩
    obtain ⟨nw, rfl⟩ : ∃ n : Nat, n6 = Int.ofNat n := ⟨n6.toNat, by simp only [Int.ofNat_eq_natCast]; omega⟩
    obtain ⟨zg, rfl⟩ : ∃ n : Nat, r2 = Int.ofNat n := ⟨r2.toNat, by simp only [Int.ofNat_eq_natCast]; omega⟩
    obtain ⟨zh, rfl⟩ : ∃ n : Nat, r4 = Int.ofNat n := ⟨r4.toNat, by simp only [Int.ofNat_eq_natCast]; omega⟩
    obtain ⟨zm, rfl⟩ : ∃ n : Nat, r6 = Int.ofNat n := ⟨r6.toNat, by simp only [Int.ofNat_eq_natCast]; omega⟩
    simp only [Int.ofNat_eq_natCast] at c5 c6 d2 d4 d6
    have ci : ∀ (k : IntKind) (n : Int) (s : AS), absC (.i k n) s = (.int k n, s) := fun _ _ _ => rfl
    have cb : ∀ (x : Bool) (s : AS), absC (.b x) s = (.bool x, s) := fun _ _ => rfl
    cases y with
    | nil => exact gsv_nil ⟨n1, n2, n3, n4, wa, nw, b7⟩ ⟨r1, zg, r3, zh, r5, zm⟩ (by show wa < _; omega) (by show nw < _; omega) (by show zm < _; omega) (by show zh < _; omega)
    | sl rows len =>
      simp only [Ty] at h4
      obtain ⟨l1, l2, l3⟩ := h4
      obtain ⟨L, e1, e2, e3⟩ := rows_gh rows (startS Tryd.prog G2) l3
      have := gsv_law L (eL_lt e3) len rows.length (by omega) ⟨n1, n2, n3, n4, wa, nw, b7⟩ ⟨r1, zg, r3, zh, r5, zm⟩ (by show wa < _; omega) (by show nw < _; omega) (by show zm < _; omega) (by show zh < _; omega)
      have e4 : absC (.sl rows len) (startS Tryd.prog G2) = (.slice (startS Tryd.prog G2).nx 0 len rows.length, (startS Tryd.prog G2).push (.cells true (rowsOf ghC L))) := by
        simp only [absC, e1]
      have e5 : absArgs [(true, [.i .u8 n1, .i .u8 n2, .i .i64 n3, .i .i64 n4, .i .u64 (Int.ofNat wa), .i .u64 (Int.ofNat nw), .b b7]), (false, [.sl rows len]), (true, [.i .i64 r1, .i .u32 (Int.ofNat zg), .b r3, .i .u64 (Int.ofNat zh), .i .i64 r5, .i .u32 (Int.ofNat zm)])] (startS Tryd.prog G2) =
          ([.agg (acC ⟨n1, n2, n3, n4, wa, nw, b7⟩), .slice (startS Tryd.prog G2).nx 0 len rows.length, .agg (zC ⟨r1, zg, r3, zh, r5, zm⟩)], (startS Tryd.prog G2).push (.cells true (rowsOf ghC L))) := by
        simp only [absArgs, absCs, ci, cb, e4]
        rfl
      rw [e5]
      exact this
    | _ => simp only [Ty] at h4
end Go.Proofs.YtipadnlhcnmgaaaDoor.ghostsStep
