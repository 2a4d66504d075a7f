/- The law NodesShadow answers true, for all arguments. Conditions: those that each theorem names, and no others. -/
import Derived.Test.YtipadnlhcnmgaaaDoorShade17
namespace Go.Proofs.YtipadnlhcnmgaaaDoor.nodesShadow
open Go Go.Mini
def acK : List Kc := [.int .u8, .int .u8, .int .i64, .int .i64, .int .u64, .int .u64, .bool]
def rfK : List Kc := [.int .i64, .int .u32, .bool]
theorem rows_ac : ∀ (rows : List (List SD)) (s : AS), Tyss rows acK → ∃ L : List Ac, absRows rows s = (rowsOf acC L, s) ∧ L.length = rows.length ∧ ∀ x ∈ L, x.wa < 18446744073709551616 ∧ x.nw < 18446744073709551616
  | [], s, _ => ⟨[], rfl, rfl, by simp⟩
  | r :: rs, s, h => by
    obtain ⟨h1, h2⟩ := h
    obtain ⟨L, e1, e2, e3⟩ := rows_ac rs s h2
    match r, h1 with
    | [x1, x2, x3, x4, x5, x6, x7], ⟨k1, k2, k3, k4, k5, k6, k7, _⟩ =>
      cases x1 <;> simp only [Ty] at k1
      cases x2 <;> simp only [Ty] at k2
      cases x3 <;> simp only [Ty] at k3
      cases x4 <;> simp only [Ty] at k4
      cases x5 <;> simp only [Ty] at k5
      cases x6 <;> simp only [Ty] at k6
      cases x7 <;> simp only [Ty] at k7
      obtain ⟨rfl, w1⟩ := k1
      obtain ⟨rfl, w2⟩ := k2
      obtain ⟨rfl, w3⟩ := k3
      obtain ⟨rfl, w4⟩ := k4
      obtain ⟨rfl, w5⟩ := k5
      obtain ⟨rfl, w6⟩ := k6
      rename_i n1 n2 n3 n4 n5 n6 b7
      have b5 := bounds_u64 w5
      have b6 := bounds_u64 w6
      refine ⟨⟨n1, n2, n3, n4, n5.toNat, n6.toNat, b7⟩ :: L, ?_, by simp [e2], fun x hx => ?_⟩
      · have hn5 : Int.ofNat n5.toNat = n5 := by simp only [Int.ofNat_eq_natCast]; omega
        have hn6 : Int.ofNat n6.toNat = n6 := by simp only [Int.ofNat_eq_natCast]; omega
        show ((absCs [.i .u8 n1, .i .u8 n2, .i .i64 n3, .i .i64 n4, .i .u64 n5, .i .u64 n6, .b b7] s).1 ++ (absRows rs (absCs [.i .u8 n1, .i .u8 n2, .i .i64 n3, .i .i64 n4, .i .u64 n5, .i .u64 n6, .b b7] s).2).1, (absRows rs (absCs [.i .u8 n1, .i .u8 n2, .i .i64 n3, .i .i64 n4, .i .u64 n5, .i .u64 n6, .b b7] s).2).2) = _
        have e4 : absCs [.i .u8 n1, .i .u8 n2, .i .i64 n3, .i .i64 n4, .i .u64 n5, .i .u64 n6, .b b7] s = (acC ⟨n1, n2, n3, n4, n5.toNat, n6.toNat, b7⟩, s) := by
          simp only [absCs, absC, acC, hn5, hn6]
        rw [e4]
        simp only [e1]
        rfl
      · rcases List.mem_cons.1 hx with rfl | hx
        · exact ⟨by show n5.toNat < _; omega, by show n6.toNat < _; omega⟩
        · exact e3 x hx
theorem rows_rf : ∀ (rows : List (List SD)) (s : AS), Tyss rows rfK → ∃ L : List Rf, absRows rows s = (rowsOf rC L, s) ∧ L.length = rows.length
  | [], s, _ => ⟨[], rfl, rfl⟩
  | r :: rs, s, h => by
    obtain ⟨h1, h2⟩ := h
    obtain ⟨L, e1, e2⟩ := rows_rf rs s h2
    match r, h1 with
    | [x1, x2, x3], ⟨k1, k2, k3, _⟩ =>
      cases x1 <;> simp only [Ty] at k1
      cases x2 <;> simp only [Ty] at k2
      cases x3 <;> simp only [Ty] at k3
      obtain ⟨rfl, w1⟩ := k1
      obtain ⟨rfl, w2⟩ := k2
      rename_i n1 n2 b3
      have b2 := bounds_u32 w2
      refine ⟨⟨n1, n2.toNat, b3⟩ :: L, ?_, by simp [e2]⟩
      have hn2 : Int.ofNat n2.toNat = n2 := by simp only [Int.ofNat_eq_natCast]; omega
      show ((absCs [.i .i64 n1, .i .u32 n2, .b b3] s).1 ++ (absRows rs (absCs [.i .i64 n1, .i .u32 n2, .b b3] s).2).1, (absRows rs (absCs [.i .i64 n1, .i .u32 n2, .b b3] s).2).2) = _
      have e4 : absCs [.i .i64 n1, .i .u32 n2, .b b3] s = (rC ⟨n1, n2.toNat, b3⟩, s) := by
        simp only [absCs, absC, rC, hn2]
      rw [e4]
      simp only [e1]
      rfl
theorem eA_lt {L : List Ac} (h : ∀ x ∈ L, x.wa < 18446744073709551616 ∧ x.nw < 18446744073709551616) (k : Nat) : (eA L k).wa < 18446744073709551616 ∧ (eA L k).nw < 18446744073709551616 := by
  unfold eA
  cases hk : L[k]? with
  | none => exact ⟨by show 0 < _; omega, by show 0 < _; omega⟩
  | some x => exact h x (List.mem_of_getElem? hk)
def rf0 : Rf := ⟨0, 0, false⟩
def eR (L : List Rf) (k : Nat) : Rf := (L[k]?).getD rf0
theorem eR_at {L : List Rf} {k : Nat} (h : k < L.length) : L[k]? = some (eR L k) := by
  unfold eR
  rw [List.getElem?_eq_getElem h]
  rfl
theorem g59d : isAggA Tryd.prog 59 = some true := by kernel_rfl
theorem z59d : sizeA Tryd.prog 59 = some 3 := by kernel_rfl
theorem ac_names {p : Nat → Bool} (L : List Ac) : namess p (rowsOf acC L) = true := names_rows (fun _ => rfl) L
theorem rf_names {p : Nat → Bool} (L : List Rf) : namess p (rowsOf rC L) = true := names_rows (fun _ => rfl) L
theorem lenR (s : AS) (b n c : Nat) : lenA Tryd.prog s 87 (.slice b 0 n c) = some (.int .i64 (Int.ofNat n)) := by simp only [lenA, t87]; rfl
theorem rowR_of (R : List Rf) (nr cr : Nat) (hn : nr ≤ R.length) (rest : List (Nat × AObj)) (h3 : getB rest 3 = some (.cells true (rowsOf rC R))) : RowR (.slice 3 0 nr cr) nr rest (eR R) where
  len s := lenR s 3 nr cr
  at_ k hk := by
    refine ⟨k * 3, ?_, fun s hs => ld_row (P := Tryd.prog) (f := rC) (n := 3) (fun _ => rfl) g59d z59d (hs.trans h3) (eR_at (by omega))⟩
    have := idx_slice (P := Tryd.prog) (b := 3) (o := 0) (cap := cr) (kk := .i64) t87 z59d hk
    rwa [Nat.zero_add] at this
  nm := rfl
def dpks : List Pk := [⟨false, [.sl acK]⟩, ⟨false, [.sl rfK]⟩, ⟨false, [.int .u32]⟩]
theorem dmain (xs : List (Bool × List SD)) (h : Fits xs dpks) : ∃ e s1, Sound Tryd.prog (.call 8 (absArgs xs (startS Tryd.prog G2)).1 (absArgs xs (startS Tryd.prog G2)).2) ⟨e, [.bool true], s1⟩ := by
  match xs, h with
  | [(a, [x]), (b, [y]), (c, [z])], ⟨h1, ⟨k1, _⟩, h3, ⟨h4, _⟩, h5, ⟨h6, _⟩, _⟩ =>
    simp only at h1 k1 h3 h4 h5 h6
    subst h1 h3 h5
    cases z <;> simp only [Ty] at h6
    obtain ⟨rfl, w7⟩ := h6
    rename_i mm
    have c7 := bounds_u32 w7
    obtain ⟨m, rfl⟩ : ∃ n : Nat, mm = Int.ofNat n := ⟨mm.toNat, by simp only [Int.ofNat_eq_natCast]; omega⟩
    simp only [Int.ofNat_eq_natCast] at c7
    have hm : m < 4294967296 := by omega
    have ci : ∀ (k : IntKind) (n : Int) (s : AS), absC (.i k n) s = (.int k n, s) := fun _ _ _ => rfl
    have cn : ∀ s : AS, absC .nil s = (.nilSlice, s) := fun _ => rfl
    cases x with
    | nil =>
      cases y with
      | nil =>
        obtain ⟨ex, _, hs⟩ := gk_lnil [(0, .cells true wf), (1, .cells true lf)] ⟨⟨⟨by decide, rfl, rfl⟩, ⟨by decide, rfl, rfl⟩, trivial⟩, ⟨true, rfl⟩, ⟨true, rfl⟩⟩ .nilSlice 0 (fun s => by simp only [lenA, t87]; rfl) m
        obtain ⟨s2, hs⟩ := Sound.relen hs 2 2 (by decide)
        refine ⟨ex, s2, ?_⟩
        simp only [absArgs, absCs, ci, cn]
        exact hs
      | sl rows len =>
        simp only [Ty] at h4
        obtain ⟨l1, l2, l3⟩ := h4
        obtain ⟨R, e1, e2⟩ := rows_rf rows (startS Tryd.prog G2) l3
        obtain ⟨ex, _, hs⟩ := gk_lnil [(2, .cells true (rowsOf rC R)), (0, .cells true wf), (1, .cells true lf)] ⟨⟨⟨(by decide : 2 < 4), rf_names R, rfl⟩, ⟨by decide, rfl, rfl⟩, ⟨by decide, rfl, rfl⟩, trivial⟩, ⟨true, rfl⟩, ⟨true, rfl⟩⟩ (.slice 2 0 len rows.length) len (fun s => lenR s 2 len rows.length) m
        obtain ⟨s2, hs⟩ := Sound.relen hs 3 3 (by decide)
        refine ⟨ex, s2, ?_⟩
        have e4 : absC (.sl rows len) (startS Tryd.prog G2) = (.slice (startS Tryd.prog G2).nx 0 len rows.length, (startS Tryd.prog G2).push (.cells true (rowsOf rC R))) := by
          simp only [absC, e1]
        simp only [absArgs, absCs, ci, cn, e4]
        exact hs
      | _ => simp only [Ty] at h4
    | sl rows len =>
      simp only [Ty] at k1
      obtain ⟨l1, l2, l3⟩ := k1
      obtain ⟨L, e1, e2, e3⟩ := rows_ac rows (startS Tryd.prog G2) l3
      have e4 : absC (.sl rows len) (startS Tryd.prog G2) = (.slice (startS Tryd.prog G2).nx 0 len rows.length, (startS Tryd.prog G2).push (.cells true (rowsOf acC L))) := by
        simp only [absC, e1]
      cases y with
      | nil =>
        obtain ⟨ex, _, hs⟩ := gk_law L (eA_lt e3) len rows.length (by omega) [(2, .cells true (rowsOf acC L)), (0, .cells true wf), (1, .cells true lf)] ⟨⟨⟨(by decide : 2 < 4), ac_names L, rfl⟩, ⟨by decide, rfl, rfl⟩, ⟨by decide, rfl, rfl⟩, trivial⟩, ⟨true, rfl⟩, ⟨true, rfl⟩⟩ true rfl .nilSlice 0 (fun _ => rf0) (.inr ⟨rfl, rfl⟩) m hm
        obtain ⟨s2, hs⟩ := Sound.relen hs 3 3 (by decide)
        refine ⟨ex, s2, ?_⟩
        simp only [absArgs, absCs, ci, cn, e4]
        exact hs
      | sl rows2 len2 =>
        simp only [Ty] at h4
        obtain ⟨m1, m2, m3⟩ := h4
        obtain ⟨R, f1, f2⟩ := rows_rf rows2 ((startS Tryd.prog G2).push (.cells true (rowsOf acC L))) m3
        have f4 : absC (.sl rows2 len2) ((startS Tryd.prog G2).push (.cells true (rowsOf acC L))) = (.slice ((startS Tryd.prog G2).push (.cells true (rowsOf acC L))).nx 0 len2 rows2.length, ((startS Tryd.prog G2).push (.cells true (rowsOf acC L))).push (.cells true (rowsOf rC R))) := by
          simp only [absC, f1]
        obtain ⟨ex, s2, hs⟩ := gk_law L (eA_lt e3) len rows.length (by omega) [(3, .cells true (rowsOf rC R)), (2, .cells true (rowsOf acC L)), (0, .cells true wf), (1, .cells true lf)] ⟨⟨⟨(by decide : 3 < 4), rf_names R, rfl⟩, ⟨(by decide : 2 < 4), ac_names L, rfl⟩, ⟨by decide, rfl, rfl⟩, ⟨by decide, rfl, rfl⟩, trivial⟩, ⟨true, rfl⟩, ⟨true, rfl⟩⟩ true rfl (.slice 3 0 len2 rows2.length) len2 (eR R) (.inl ⟨rows2.length, rfl, rowR_of R len2 rows2.length (by omega) _ rfl⟩) m hm
        refine ⟨ex, s2, ?_⟩
        simp only [absArgs, absCs, ci, e4, f4]
        exact hs
      | _ => simp only [Ty] at h4
    | _ => simp only [Ty] at k1
end Go.Proofs.YtipadnlhcnmgaaaDoor.nodesShadow
