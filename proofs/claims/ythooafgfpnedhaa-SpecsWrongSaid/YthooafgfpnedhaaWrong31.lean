/- The law SpecsWrong answers true, for all arguments. Conditions: those that each theorem names, and no others. -/
import Derived.Test.YthooafgfpnedhaaWrong30
namespace Go.Proofs.Ythooafgfpnedhaa.specsWrong
open Go Go.Mini
theorem t47 : Try.prog.underlying 47 = some (.slice 24) := by kernel_rfl
theorem t65 : Try.prog.underlying 65 = some (.slice 5) := by kernel_rfl
theorem s24 : sizeA Try.prog 24 = some 3 := by kernel_rfl
theorem s5 : sizeA Try.prog 5 = some 1 := by kernel_rfl
theorem a5 : isAggA Try.prog 5 = some false := by kernel_rfl
theorem rows_do : ∀ (rows : List (List SD)) (s : AS), Tyss rows [.int .u8, .int .u64, .int .u64] → ∃ L : List Do3, absRows rows s = (rowsOf doC L, s) ∧ L.length = rows.length ∧ ∀ z ∈ L, 0 ≤ z.1
  | [], s, _ => ⟨[], rfl, rfl, by simp⟩
  | r :: rs, s, h => by
    obtain ⟨h1, h2⟩ := h
    obtain ⟨L, e1, e2, e3⟩ := rows_do rs s h2
    match r, h1 with
    | [x1, x2, x3], ⟨k1, k2, k3, _⟩ =>
      cases x1 <;> simp only [Ty] at k1
      cases x2 <;> simp only [Ty] at k2
      cases x3 <;> simp only [Ty] at k3
      obtain ⟨rfl, w1⟩ := k1
      obtain ⟨rfl, w2⟩ := k2
      obtain ⟨rfl, w3⟩ := k3
      rename_i n1 n2 n3
      have b1 := bounds_u8 w1
      refine ⟨(n1, n2, n3) :: L, ?_, by simp [e2], fun z hz => ?_⟩
      · have e4 : absCs [.i .u8 n1, .i .u64 n2, .i .u64 n3] s = (doC (n1, n2, n3), s) := by
          simp only [absCs, absC, doC]
        show ((absCs [.i .u8 n1, .i .u64 n2, .i .u64 n3] s).1 ++ (absRows rs (absCs [.i .u8 n1, .i .u64 n2, .i .u64 n3] s).2).1, (absRows rs (absCs [.i .u8 n1, .i .u64 n2, .i .u64 n3] s).2).2) = _
        rw [e4]
        simp only [e1]
        rfl
      · rcases List.mem_cons.1 hz with rfl | hz
        · exact b1.1
        · exact e3 z hz
def byteC (B : List Nat) : List AV := B.map fun t => .int .u8 (Int.ofNat t)
theorem nm_byte (p : Nat → Bool) : ∀ B, namess p (byteC B) = true
  | [] => rfl
  | _ :: B => nm_byte p B
theorem rows_byte : ∀ (rows : List (List SD)) (s : AS), Tyss rows [.int .u8] → ∃ B : List Nat, absRows rows s = (byteC B, s) ∧ B.length = rows.length ∧ ∀ t ∈ B, t ≤ 255
  | [], s, _ => ⟨[], rfl, rfl, by simp⟩
  | r :: rs, s, h => by
    obtain ⟨h1, h2⟩ := h
    obtain ⟨B, e1, e2, e3⟩ := rows_byte rs s h2
    match r, h1 with
    | [x1], ⟨k1, _⟩ =>
      cases x1 <;> simp only [Ty] at k1
      obtain ⟨rfl, w1⟩ := k1
      rename_i n1
      have b1 := bounds_u8 w1
      obtain ⟨t, rfl⟩ : ∃ t : Nat, n1 = Int.ofNat t := ⟨n1.toNat, by simp only [Int.ofNat_eq_natCast]; omega⟩
      refine ⟨t :: B, ?_, by simp [e2], fun z hz => ?_⟩
      · have e4 : absCs [.i .u8 (Int.ofNat t)] s = ([.int .u8 (Int.ofNat t)], s) := by
          simp only [absCs, absC]
        show ((absCs [.i .u8 (Int.ofNat t)] s).1 ++ (absRows rs (absCs [.i .u8 (Int.ofNat t)] s).2).1, (absRows rs (absCs [.i .u8 (Int.ofNat t)] s).2).2) = _
        rw [e4]
        simp only [e1]
        rfl
      · rcases List.mem_cons.1 hz with rfl | hz
        · have := b1.2
          simp only [Int.ofNat_eq_natCast] at this
          omega
        · exact e3 z hz
theorem rwd_nil (row : List AV) (h : namess (fun _ => false) row = true) : RwD .nilSlice 0 row (fun _ => (0, 0, 0)) where
  len s := by simp only [lenA, t47]; rfl
  at_ i hi := by omega
  small := by decide
  op i hi := by omega
  nm := h
  kind := .inl rfl
theorem rwd_sl (L : List Do3) (hL : ∀ z ∈ L, 0 ≤ z.1) (len c : Nat) (h1 : len ≤ L.length) (h2 : len ≤ 60) : RwD (.slice 0 0 len c) len (rowsOf doC L) (fun i => (L[i]?).getD (0, 0, 0)) where
  len s := by simp only [lenA, t47]; rfl
  at_ i hi := by
    have hx : L[i]? = some ((L[i]?).getD (0, 0, 0)) := by
      rw [List.getElem?_eq_getElem (by omega)]
      rfl
    refine ⟨0 + i * 3, idx_slice t47 s24 hi, fun s hs => ⟨?_, ?_, ?_⟩⟩
    · rw [Nat.zero_add]
      exact ld_rowCell (f := doC) (n := 3) (i := 0) (fun _ => rfl) a5 hs hx rfl
    · rw [Nat.zero_add]
      exact ld_rowCell (f := doC) (n := 3) (i := 1) (fun _ => rfl) a22 hs hx rfl
    · rw [Nat.zero_add]
      exact ld_rowCell (f := doC) (n := 3) (i := 2) (fun _ => rfl) a22 hs hx rfl
  small := h2
  op i hi := by
    rw [List.getElem?_eq_getElem (by omega)]
    exact hL _ (List.getElem_mem _)
  nm := names_rows (fun _ => rfl) L
  kind := .inr ⟨c, rfl⟩
theorem rwt_nil (trow : List AV) (h : namess (fun _ => false) trow = true) : RwT .nilSlice 0 trow (fun _ => 3) where
  len s := len65n s
  at_ i hi := by omega
  else_ i _ := rfl
  byte i := by decide
  nm := h
  kind := .inl rfl
def tauB (B : List Nat) (nt i : Nat) : Nat := if i < nt then (B[i]?).getD 3 else 3
theorem rwt_sl (B : List Nat) (hB : ∀ t ∈ B, t ≤ 255) (nt c : Nat) (h1 : nt ≤ B.length) : RwT (.slice 9 0 nt c) nt (byteC B) (tauB B nt) where
  len s := len65 s 9 nt c
  at_ i hi := by
    refine ⟨0 + i * 1, idx_slice t65 s5 hi, fun s hs => ld_cell a5 hs ?_⟩
    have hB' : i < B.length := by omega
    simp [byteC, tauB, hi, hB']
  else_ i h := by
    unfold tauB
    rw [if_neg (by omega)]
  byte i := by
    unfold tauB
    split
    · rename_i h
      rw [List.getElem?_eq_getElem (by omega)]
      exact hB _ (List.getElem_mem _)
    · decide
  nm := nm_byte _ B
  kind := .inr ⟨c, rfl⟩
theorem wrong_any {lA tA : AV} {n nt y0 y1 : Nat} {o0 o1 : AObj} (hl : ∀ s, lenA Try.prog s 47 lA = some (.int .i64 (Int.ofNat n))) (ht : ∀ s, lenA Try.prog s 65 tA = some (.int .i64 (Int.ofNat nt)))
    (main : 0 < n → n ≤ 60 → nt ≤ 60 → ∃ e s1, Sound Try.prog (.call 7 [lA, tA, .agg [.int .u8 (Int.ofNat y0), .int .u8 (Int.ofNat y1)]] ⟨⟨[(1, o1), (0, o0)], 2, none, []⟩, 2⟩) ⟨e, [.bool true], s1⟩) :
    ∃ e s1, Sound Try.prog (.call 7 [lA, tA, .agg [.int .u8 (Int.ofNat y0), .int .u8 (Int.ofNat y1)]] ⟨⟨[(1, o1), (0, o0)], 2, none, []⟩, 2⟩) ⟨e, [.bool true], s1⟩ := by
  by_cases h0 : n = 0
  · subst h0
    exact ⟨_, _, runX_sound mixed none_sound (x_e1 lA tA 0 nt 0 0 y0 y1 0 0 0 o0 o1 .dead .dead .dead) ⟨hl _, eqN (by simp), livC _, trivial⟩⟩
  · by_cases h1 : n ≤ 60
    · by_cases h2 : nt ≤ 60
      · exact main (by omega) h1 h2
      · exact ⟨_, _, runX_sound mixed none_sound (x_e3 lA tA n nt 0 0 y0 y1 0 0 0 o0 o1 .dead .dead .dead) ⟨hl _, eqN (by simpa using h0), hl _, gtq n 60 false (by simp; omega), ht _, gtq nt 60 true (by simp; omega), livC _, trivial⟩⟩
    · exact ⟨_, _, runX_sound mixed none_sound (x_e2 lA tA n nt 0 0 y0 y1 0 0 0 o0 o1 .dead .dead .dead) ⟨hl _, eqN (by simpa using h0), hl _, gtq n 60 true (by simp; omega), livC _, trivial⟩⟩
def wpks : List Pk := [⟨false, [.sl [.int .u8, .int .u64, .int .u64]]⟩, ⟨false, [.sl [.int .u8]]⟩, ⟨true, [.int .u8, .int .u8]⟩]
theorem nl47 (s : AS) : lenA Try.prog s 47 .nilSlice = some (.int .i64 (Int.ofNat 0)) := by simp only [lenA, t47]; rfl
theorem sl47 (s : AS) (n c : Nat) : lenA Try.prog s 47 (.slice 0 0 n c) = some (.int .i64 (Int.ofNat n)) := by simp only [lenA, t47]; rfl
theorem wmain (xs : List (Bool × List SD)) (h : Fits xs wpks) : ∃ e s1, Sound Try.prog (.call 7 (absArgs xs (startS Try.prog [])).1 (absArgs xs (startS Try.prog [])).2) ⟨e, [.bool true], s1⟩ := by
  match xs, h with
  | [(b1, [u1]), (b2, [u2]), (b3, [u3, u4])], ⟨g1, ⟨k1, _⟩, g2, ⟨k2, _⟩, g3, ⟨k3, k4, _⟩, _⟩ =>
    simp only at g1 g2 g3 k1 k2 k3 k4
    subst g1 g2 g3
    have e0 : startS Try.prog [] = ⟨⟨[], 0, none, []⟩, 0⟩ := by
      show (⟨⟨[], 0, none, []⟩, Try.prog.globals.size⟩ : AS) = _
      rw [noG]
    rw [e0]
    cases u3 <;> simp only [Ty] at k3
    cases u4 <;> simp only [Ty] at k4
    obtain ⟨rfl, w3⟩ := k3
    obtain ⟨rfl, w4⟩ := k4
    rename_i m3 m4
    have b3 := bounds_u8 w3
    have b4 := bounds_u8 w4
    obtain ⟨y0, rfl⟩ : ∃ t : Nat, m3 = Int.ofNat t := ⟨m3.toNat, by simp only [Int.ofNat_eq_natCast]; omega⟩
    obtain ⟨y1, rfl⟩ : ∃ t : Nat, m4 = Int.ofNat t := ⟨m4.toNat, by simp only [Int.ofNat_eq_natCast]; omega⟩
    have hy : y0 < 256 := by
      have := b3.2
      simp only [Int.ofNat_eq_natCast] at this
      omega
    cases u1 with
    | nil =>
      cases u2 with
      | nil =>
        obtain ⟨e, s1, hs⟩ := wrong_any (lA := .nilSlice) (tA := .nilSlice) (n := 0) (nt := 0) (y0 := y0) (y1 := y1) (o0 := .cells true []) (o1 := .cells true []) nl47 len65n (fun h => absurd h (by decide))
        exact ⟨e, s1, Sound.phantom (.cells true []) (Sound.phantom (.cells true []) hs)⟩
      | sl rows len =>
        simp only [Ty] at k2
        obtain ⟨l1, l2, l3⟩ := k2
        obtain ⟨B, e1, e2, e3⟩ := rows_byte rows ⟨⟨[], 0, none, []⟩, 0⟩ l3
        have e5 : absArgs [(false, [.nil]), (false, [.sl rows len]), (true, [.i .u8 (Int.ofNat y0), .i .u8 (Int.ofNat y1)])] ⟨⟨[], 0, none, []⟩, 0⟩ = ([.nilSlice, .slice 0 0 len rows.length, .agg [.int .u8 (Int.ofNat y0), .int .u8 (Int.ofNat y1)]], ⟨⟨[(0, .cells true (byteC B))], 1, none, []⟩, 1⟩) := by
          simp only [absArgs, absCs, absC, e1]
          rfl
        obtain ⟨e, s1, hs⟩ := wrong_any (lA := .nilSlice) (tA := .slice 0 0 len rows.length) (n := 0) (nt := len) (y0 := y0) (y1 := y1) (o0 := .cells true (byteC B)) (o1 := .cells true []) nl47 (fun s => len65 s 0 len _) (fun h => absurd h (by decide))
        rw [e5]
        exact ⟨e, s1, Sound.phantom (.cells true []) hs⟩
      | _ => simp only [Ty] at k2
    | sl rows len =>
      simp only [Ty] at k1
      obtain ⟨l1, l2, l3⟩ := k1
      obtain ⟨L, e1, e2, e3⟩ := rows_do rows ⟨⟨[], 0, none, []⟩, 0⟩ l3
      cases u2 with
      | nil =>
        have e5 : absArgs [(false, [.sl rows len]), (false, [.nil]), (true, [.i .u8 (Int.ofNat y0), .i .u8 (Int.ofNat y1)])] ⟨⟨[], 0, none, []⟩, 0⟩ = ([.slice 0 0 len rows.length, .nilSlice, .agg [.int .u8 (Int.ofNat y0), .int .u8 (Int.ofNat y1)]], ⟨⟨[(0, .cells true (rowsOf doC L))], 1, none, []⟩, 1⟩) := by
          simp only [absArgs, absCs, absC, e1]
          rfl
        obtain ⟨e, s1, hs⟩ := wrong_any (lA := .slice 0 0 len rows.length) (tA := .nilSlice) (n := len) (nt := 0) (y0 := y0) (y1 := y1) (o0 := .cells true (rowsOf doC L)) (o1 := .cells true []) (fun s => sl47 s len _) len65n (fun h1 h2 h3 => wrong_main (rwd_sl L e3 len rows.length (by omega) h2) (rwt_nil [] rfl) h1 h3 y0 y1 hy)
        rw [e5]
        exact ⟨e, s1, Sound.phantom (.cells true []) hs⟩
      | sl rows2 len2 =>
        simp only [Ty] at k2
        obtain ⟨q1, q2, q3⟩ := k2
        obtain ⟨B, f1, f2, f3⟩ := rows_byte rows2 ⟨⟨[(0, .cells true (rowsOf doC L))], 1, none, []⟩, 1⟩ q3
        have e5 : absArgs [(false, [.sl rows len]), (false, [.sl rows2 len2]), (true, [.i .u8 (Int.ofNat y0), .i .u8 (Int.ofNat y1)])] ⟨⟨[], 0, none, []⟩, 0⟩ = ([.slice 0 0 len rows.length, .slice 1 0 len2 rows2.length, .agg [.int .u8 (Int.ofNat y0), .int .u8 (Int.ofNat y1)]], ⟨⟨[(1, .cells true (byteC B)), (0, .cells true (rowsOf doC L))], 2, none, []⟩, 2⟩) := by
          have f1' : absRows rows2 ((⟨⟨[], 0, none, []⟩, 0⟩ : AS).push (.cells true (rowsOf doC L))) = (byteC B, (⟨⟨[], 0, none, []⟩, 0⟩ : AS).push (.cells true (rowsOf doC L))) := f1
          simp only [absArgs, absCs, absC, e1, f1']
          rfl
        rw [e5]
        exact wrong_any (lA := .slice 0 0 len rows.length) (tA := .slice 1 0 len2 rows2.length) (n := len) (nt := len2) (y0 := y0) (y1 := y1) (o0 := .cells true (rowsOf doC L)) (o1 := .cells true (byteC B)) (fun s => sl47 s len _) (fun s => len65 s 1 len2 _) (fun h1 h2 h3 => wrong_main (rwd_sl L e3 len rows.length (by omega) h2) (rwt_sl B f3 len2 rows2.length (by omega)) h1 h3 y0 y1 hy)
      | _ => simp only [Ty] at k2
    | _ => simp only [Ty] at k1
end Go.Proofs.Ythooafgfpnedhaa.specsWrong
