/- Rows of ops and of bytes, as they come in. Conditions: those that each theorem names, and no others. -/
import Derived.Test.YthooafgfpnedhaaWitn29
namespace Go.Proofs.Ythooafgfpnedhaa.specsWitness
open Go Go.Mini
theorem t47 : Try.prog.underlying 47 = some (.slice 24) := by kernel_rfl
theorem t65 : Try.prog.underlying 65 = some (.slice 5) := by kernel_rfl
theorem s24 : sizeA Try.prog 24 = some 3 := by kernel_rfl
theorem s5 : sizeA Try.prog 5 = some 1 := by kernel_rfl
theorem a5 : isAggA Try.prog 5 = some false := by kernel_rfl
theorem rows_do : ∀ (rows : List (List SD)) (s : AS), Tyss rows [.int .u8, .int .u64, .int .u64] → ∃ L : List Do3, absRows rows s = (rowsOf doC L, s) ∧ L.length = rows.length ∧ ∀ z ∈ L, 0 ≤ z.1
  | [], s, _ => ⟨[], rfl, rfl, by simp⟩
  | r :: rs, s, h => by
    obtain ⟨h1, h2⟩ := h
    obtain ⟨L, e1, e2, e3⟩ := rows_do rs s h2
    match r, h1 with
    | [x1, x2, x3], ⟨k1, k2, k3, _⟩ =>
      cases x1 <;> simp only [Ty] at k1
      cases x2 <;> simp only [Ty] at k2
      cases x3 <;> simp only [Ty] at k3
      obtain ⟨rfl, w1⟩ := k1
      obtain ⟨rfl, w2⟩ := k2
      obtain ⟨rfl, w3⟩ := k3
      rename_i n1 n2 n3
      have b1 := bounds_u8 w1
      refine ⟨(n1, n2, n3) :: L, ?_, by simp [e2], fun z hz => ?_⟩
      · have e4 : absCs [.i .u8 n1, .i .u64 n2, .i .u64 n3] s = (doC (n1, n2, n3), s) := by
          simp only [absCs, absC, doC]
        show ((absCs [.i .u8 n1, .i .u64 n2, .i .u64 n3] s).1 ++ (absRows rs (absCs [.i .u8 n1, .i .u64 n2, .i .u64 n3] s).2).1, (absRows rs (absCs [.i .u8 n1, .i .u64 n2, .i .u64 n3] s).2).2) = _
        rw [e4]
        simp only [e1]
        rfl
      · rcases List.mem_cons.1 hz with rfl | hz
        · exact b1.1
        · exact e3 z hz
def byteC (B : List Nat) : List AV := B.map fun t => .int .u8 (Int.ofNat t)
theorem nm_byte (p : Nat → Bool) : ∀ B, namess p (byteC B) = true
  | [] => rfl
  | _ :: B => nm_byte p B
theorem rows_byte : ∀ (rows : List (List SD)) (s : AS), Tyss rows [.int .u8] → ∃ B : List Nat, absRows rows s = (byteC B, s) ∧ B.length = rows.length ∧ ∀ t ∈ B, t ≤ 255
  | [], s, _ => ⟨[], rfl, rfl, by simp⟩
  | r :: rs, s, h => by
    obtain ⟨h1, h2⟩ := h
    obtain ⟨B, e1, e2, e3⟩ := rows_byte rs s h2
    match r, h1 with
    | [x1], ⟨k1, _⟩ =>
      cases x1 <;> simp only [Ty] at k1
      obtain ⟨rfl, w1⟩ := k1
      rename_i n1
      have b1 := bounds_u8 w1
      obtain ⟨t, rfl⟩ : ∃ t : Nat, n1 = Int.ofNat t := ⟨n1.toNat, by simp only [Int.ofNat_eq_natCast]; omega⟩
      refine ⟨t :: B, ?_, by simp [e2], fun z hz => ?_⟩
      · have e4 : absCs [.i .u8 (Int.ofNat t)] s = ([.int .u8 (Int.ofNat t)], s) := by
          simp only [absCs, absC]
        show ((absCs [.i .u8 (Int.ofNat t)] s).1 ++ (absRows rs (absCs [.i .u8 (Int.ofNat t)] s).2).1, (absRows rs (absCs [.i .u8 (Int.ofNat t)] s).2).2) = _
        rw [e4]
        simp only [e1]
        rfl
      · rcases List.mem_cons.1 hz with rfl | hz
        · have := b1.2
          simp only [Int.ofNat_eq_natCast] at this
          omega
        · exact e3 z hz
theorem rwd_nil (row : List AV) (h : namess (fun _ => false) row = true) : RwD .nilSlice 0 row (fun _ => (0, 0, 0)) where
  len s := by simp only [lenA, t47]; rfl
  at_ i hi := by omega
  small := by decide
  op i hi := by omega
  nm := h
  kind := .inl rfl
theorem rwd_sl (L : List Do3) (hL : ∀ z ∈ L, 0 ≤ z.1) (len c : Nat) (h1 : len ≤ L.length) (h2 : len ≤ 60) : RwD (.slice 0 0 len c) len (rowsOf doC L) (fun i => (L[i]?).getD (0, 0, 0)) where
  len s := by simp only [lenA, t47]; rfl
  at_ i hi := by
    have hx : L[i]? = some ((L[i]?).getD (0, 0, 0)) := by
      rw [List.getElem?_eq_getElem (by omega)]
      rfl
    refine ⟨0 + i * 3, idx_slice t47 s24 hi, fun s hs => ⟨?_, ?_, ?_⟩⟩
    · rw [Nat.zero_add]
      exact ld_rowCell (f := doC) (n := 3) (i := 0) (fun _ => rfl) a5 hs hx rfl
    · rw [Nat.zero_add]
      exact ld_rowCell (f := doC) (n := 3) (i := 1) (fun _ => rfl) a22 hs hx rfl
    · rw [Nat.zero_add]
      exact ld_rowCell (f := doC) (n := 3) (i := 2) (fun _ => rfl) a22 hs hx rfl
  small := h2
  op i hi := by
    rw [List.getElem?_eq_getElem (by omega)]
    exact hL _ (List.getElem_mem _)
  nm := names_rows (fun _ => rfl) L
  kind := .inr ⟨c, rfl⟩
theorem rwt_nil (trow : List AV) (h : namess (fun _ => false) trow = true) : RwT .nilSlice 0 trow (fun _ => 3) where
  len s := len65n s
  at_ i hi := by omega
  else_ i _ := rfl
  byte i := by decide
  nm := h
  kind := .inl rfl
def tauB (B : List Nat) (nt i : Nat) : Nat := if i < nt then (B[i]?).getD 3 else 3
theorem rwt_sl (B : List Nat) (hB : ∀ t ∈ B, t ≤ 255) (nt c : Nat) (h1 : nt ≤ B.length) : RwT (.slice 9 0 nt c) nt (byteC B) (tauB B nt) where
  len s := len65 s 9 nt c
  at_ i hi := by
    refine ⟨0 + i * 1, idx_slice t65 s5 hi, fun s hs => ld_cell a5 hs ?_⟩
    have hB' : i < B.length := by omega
    simp [byteC, tauB, hi, hB']
  else_ i h := by
    unfold tauB
    rw [if_neg (by omega)]
  byte i := by
    unfold tauB
    split
    · rename_i h
      rw [List.getElem?_eq_getElem (by omega)]
      exact hB _ (List.getElem_mem _)
    · decide
  nm := nm_byte _ B
  kind := .inr ⟨c, rfl⟩
theorem nl47 (s : AS) : lenA Try.prog s 47 .nilSlice = some (.int .i64 (Int.ofNat 0)) := by simp only [lenA, t47]; rfl
theorem sl47 (s : AS) (n c : Nat) : lenA Try.prog s 47 (.slice 0 0 n c) = some (.int .i64 (Int.ofNat n)) := by simp only [lenA, t47]; rfl
end Go.Proofs.Ythooafgfpnedhaa.specsWitness
