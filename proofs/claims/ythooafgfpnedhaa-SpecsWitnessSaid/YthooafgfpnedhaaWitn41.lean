/- The law SpecsWitness answers true, for all arguments. Conditions: those that each theorem names, and no others. -/
import Derived.Test.YthooafgfpnedhaaWitn40
namespace Go.Proofs.Ythooafgfpnedhaa.specsWitness
open Go Go.Mini
section
variable {lA tA : AV} {n nt : Nat} {row trow : List AV} {f : Nat → Do3} {τ : Nat → Nat}
theorem zero_of (W : RwD lA 0 row f) (W2 : RwT tA nt trow τ) {s : AS} {b0 b9 : Nat} {r0 r9 : Bool} (h0 : s.get b0 = some (.cells r0 row)) (h9 : s.get b9 = some (.cells r9 trow)) :
    ∃ M1 M2, Sound Try.prog (.call 24 [lA.ren (fun _ => b0), tA.ren (fun _ => b9)] s) ⟨.ret, [.tuple [.nilSlice, .nilSlice]], (s.push M1).push M2⟩ :=
  ⟨_, _, madeC W W2 h0 h9⟩
end
theorem wt_any {lA tA : AV} {n nt tu : Nat} {o0 o1 : AObj} (hl : ∀ s, lenA Try.prog s 47 lA = some (.int .i64 (Int.ofNat n))) (ht : ∀ s, lenA Try.prog s 65 tA = some (.int .i64 (Int.ofNat nt)))
    (zero : n = 0 → nt ≤ 60 → ∃ M1 M2, Sound Try.prog (.call 24 [lA, tA] ⟨⟨[(1, o1), (0, o0)], 2, none, []⟩, 2⟩) ⟨.ret, [.tuple [.nilSlice, .nilSlice]], ((⟨⟨[(1, o1), (0, o0)], 2, none, []⟩, 2⟩ : AS).push M1).push M2⟩)
    (main : 0 < n → n ≤ 60 → nt ≤ 60 → ∃ e s1, Sound Try.prog (.call 6 [lA, tA, .int .u8 (Int.ofNat tu)] ⟨⟨[(1, o1), (0, o0)], 2, none, []⟩, 2⟩) ⟨e, [.bool true], s1⟩) :
    ∃ e s1, Sound Try.prog (.call 6 [lA, tA, .int .u8 (Int.ofNat tu)] ⟨⟨[(1, o1), (0, o0)], 2, none, []⟩, 2⟩) ⟨e, [.bool true], s1⟩ := by
  by_cases h1 : n ≤ 60
  · by_cases h2 : nt ≤ 60
    · by_cases h0 : n = 0
      · obtain ⟨M1, M2, hm⟩ := zero h0 h2
        exact ⟨_, _, runX_sound mixed none_sound (w_zero lA tA uu uu uu uu uu uu uu n nt 0 tu o0 o1 M1 M2 .dead .dead) ⟨hl _, gtq n 60 false (by simp; omega), ht _, gtq nt 60 false (by simp; omega), hm, livC _, trivial⟩⟩
      · exact main (by omega) h1 h2
    · exact ⟨_, _, runX_sound mixed none_sound (w_e2 lA tA uu uu uu uu uu uu uu n nt 0 tu o0 o1 .dead .dead .dead .dead) ⟨hl _, gtq n 60 false (by simp; omega), ht _, gtq nt 60 true (by simp; omega), livC _, trivial⟩⟩
  · exact ⟨_, _, runX_sound mixed none_sound (w_e1 lA tA uu uu uu uu uu uu uu n nt 0 tu o0 o1 .dead .dead .dead .dead) ⟨hl _, gtq n 60 true (by simp; omega), livC _, trivial⟩⟩
def tpks : List Pk := [⟨false, [.sl [.int .u8, .int .u64, .int .u64]]⟩, ⟨false, [.sl [.int .u8]]⟩, ⟨false, [.int .u8]⟩]
theorem tmain (xs : List (Bool × List SD)) (h : Fits xs tpks) : ∃ e s1, Sound Try.prog (.call 6 (absArgs xs (startS Try.prog [])).1 (absArgs xs (startS Try.prog [])).2) ⟨e, [.bool true], s1⟩ := by
  match xs, h with
  | [(b1, [u1]), (b2, [u2]), (b3, [u3])], ⟨g1, ⟨k1, _⟩, g2, ⟨k2, _⟩, g3, ⟨k3, _⟩, _⟩ =>
    simp only at g1 g2 g3 k1 k2 k3
    subst g1 g2 g3
    have e0 : startS Try.prog [] = ⟨⟨[], 0, none, []⟩, 0⟩ := by
      show (⟨⟨[], 0, none, []⟩, Try.prog.globals.size⟩ : AS) = _
      rw [noG]
    rw [e0]
    cases u3 <;> simp only [Ty] at k3
    obtain ⟨rfl, w3⟩ := k3
    rename_i m3
    have b3 := bounds_u8 w3
    obtain ⟨tu, rfl⟩ : ∃ t : Nat, m3 = Int.ofNat t := ⟨m3.toNat, by simp only [Int.ofNat_eq_natCast]; omega⟩
    have hy : tu ≤ 255 := by
      have := b3.2
      simp only [Int.ofNat_eq_natCast] at this
      omega
    cases u1 with
    | nil =>
      cases u2 with
      | nil =>
        obtain ⟨e, s1, hs⟩ := wt_any (lA := .nilSlice) (tA := .nilSlice) (n := 0) (nt := 0) (tu := tu) (o0 := .cells true []) (o1 := .cells true []) nl47 len65n (fun _ _ => zero_of (rwd_nil [] rfl) (rwt_nil [] rfl) (b0 := 0) (b9 := 0) (r0 := true) (r9 := true) rfl rfl) (fun h => absurd h (by decide))
        exact ⟨e, s1, Sound.phantom (.cells true []) (Sound.phantom (.cells true []) hs)⟩
      | sl rows len =>
        simp only [Ty] at k2
        obtain ⟨l1, l2, l3⟩ := k2
        obtain ⟨B, e1, e2, e3⟩ := rows_byte rows ⟨⟨[], 0, none, []⟩, 0⟩ l3
        have e5 : absArgs [(false, [.nil]), (false, [.sl rows len]), (false, [.i .u8 (Int.ofNat tu)])] ⟨⟨[], 0, none, []⟩, 0⟩ = ([.nilSlice, .slice 0 0 len rows.length, .int .u8 (Int.ofNat tu)], ⟨⟨[(0, .cells true (byteC B))], 1, none, []⟩, 1⟩) := by
          simp only [absArgs, absCs, absC, e1]
          rfl
        obtain ⟨e, s1, hs⟩ := wt_any (lA := .nilSlice) (tA := .slice 0 0 len rows.length) (n := 0) (nt := len) (tu := tu) (o0 := .cells true (byteC B)) (o1 := .cells true []) nl47 (fun s => len65 s 0 len _) (fun _ h2 => zero_of (rwd_nil [] rfl) (rwt_sl B e3 len rows.length (by omega)) (b0 := 1) (b9 := 0) (r0 := true) (r9 := true) rfl rfl) (fun h => absurd h (by decide))
        rw [e5]
        exact ⟨e, s1, Sound.phantom (.cells true []) hs⟩
      | _ => simp only [Ty] at k2
    | sl rows len =>
      simp only [Ty] at k1
      obtain ⟨l1, l2, l3⟩ := k1
      obtain ⟨L, e1, e2, e3⟩ := rows_do rows ⟨⟨[], 0, none, []⟩, 0⟩ l3
      cases u2 with
      | nil =>
        have e5 : absArgs [(false, [.sl rows len]), (false, [.nil]), (false, [.i .u8 (Int.ofNat tu)])] ⟨⟨[], 0, none, []⟩, 0⟩ = ([.slice 0 0 len rows.length, .nilSlice, .int .u8 (Int.ofNat tu)], ⟨⟨[(0, .cells true (rowsOf doC L))], 1, none, []⟩, 1⟩) := by
          simp only [absArgs, absCs, absC, e1]
          rfl
        obtain ⟨e, s1, hs⟩ := wt_any (lA := .slice 0 0 len rows.length) (tA := .nilSlice) (n := len) (nt := 0) (tu := tu) (o0 := .cells true (rowsOf doC L)) (o1 := .cells true []) (fun s => sl47 s len _) len65n (fun h1 _ => by subst h1; exact zero_of (rwd_sl L e3 0 rows.length (by omega) (by decide)) (rwt_nil [] rfl) (b0 := 0) (b9 := 1) (r0 := true) (r9 := true) rfl rfl) (fun h1 h2 h3 => wt_main (rwd_sl L e3 len rows.length (by omega) h2) (rwt_nil [] rfl) h1 h3 tu hy)
        rw [e5]
        exact ⟨e, s1, Sound.phantom (.cells true []) hs⟩
      | sl rows2 len2 =>
        simp only [Ty] at k2
        obtain ⟨q1, q2, q3⟩ := k2
        obtain ⟨B, f1, f2, f3⟩ := rows_byte rows2 ⟨⟨[(0, .cells true (rowsOf doC L))], 1, none, []⟩, 1⟩ q3
        have e5 : absArgs [(false, [.sl rows len]), (false, [.sl rows2 len2]), (false, [.i .u8 (Int.ofNat tu)])] ⟨⟨[], 0, none, []⟩, 0⟩ = ([.slice 0 0 len rows.length, .slice 1 0 len2 rows2.length, .int .u8 (Int.ofNat tu)], ⟨⟨[(1, .cells true (byteC B)), (0, .cells true (rowsOf doC L))], 2, none, []⟩, 2⟩) := by
          have f1' : absRows rows2 ((⟨⟨[], 0, none, []⟩, 0⟩ : AS).push (.cells true (rowsOf doC L))) = (byteC B, (⟨⟨[], 0, none, []⟩, 0⟩ : AS).push (.cells true (rowsOf doC L))) := f1
          simp only [absArgs, absCs, absC, e1, f1']
          rfl
        rw [e5]
        exact wt_any (lA := .slice 0 0 len rows.length) (tA := .slice 1 0 len2 rows2.length) (n := len) (nt := len2) (tu := tu) (o0 := .cells true (rowsOf doC L)) (o1 := .cells true (byteC B)) (fun s => sl47 s len _) (fun s => len65 s 1 len2 _) (fun h1 _ => by subst h1; exact zero_of (rwd_sl L e3 0 rows.length (by omega) (by decide)) (rwt_sl B f3 len2 rows2.length (by omega)) (b0 := 0) (b9 := 1) (r0 := true) (r9 := true) rfl rfl) (fun h1 h2 h3 => wt_main (rwd_sl L e3 len rows.length (by omega) h2) (rwt_sl B f3 len2 rows2.length (by omega)) h1 h3 tu hy)
      | _ => simp only [Ty] at k2
    | _ => simp only [Ty] at k1
end Go.Proofs.Ythooafgfpnedhaa.specsWitness
