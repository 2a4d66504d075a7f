/- The law SpecsWrong answers true, the main way. Conditions: those that each theorem names, and no others. -/
import Derived.Test.YthooafgfpnedhaaWrong29
namespace Go.Proofs.Ythooafgfpnedhaa.specsWrong
open Go Go.Mini
theorem judge_wrong {f : Nat → Do3} {τ : Nat → Nat} {n i : Nat} (hi : i < n) (hn : n ≤ 60) {z : Call9} (hop : z.2.1 = Int.ofNat (opM f i)) (hk : kF z = (f i).2.1) (hv : vF z = (f i).2.2) (hat : atF z = Int.ofNat (stM τ (i + 1))) (hb : badF z (ansM f i) = true) (s : AS) (b : Nat) (h : s.get b = some (.cells false (rowsOf callC ((LF f τ n).set i z)))) :
    Sound Try.prog (.call 21 [.osl b 0 n 9] s) ⟨.ret, [.tuple [.int .i64 (Int.ofNat i), .bool false]], s⟩ := by
  have hl : ((LF f τ n).set i z).length = n := by simp [LF_len]
  have gi : (((LF f τ n).set i z)[i]?).getD z9 = z := by
    rw [List.getElem?_set_self (by rw [LF_len]; exact hi)]
    rfl
  have gd : ∀ d, d < n → d ≠ i → (((LF f τ n).set i z)[d]?).getD z9 = callM f τ d := by
    intro d hd hne
    rw [List.getElem?_set_ne (fun h => hne h.symm)]
    simp [LF, hd]
  have hall : ∀ d, d < n → ((((LF f τ n).set i z)[d]?).getD z9).2.1 = Int.ofNat (opM f d) ∧ opM f d < 8 := by
    intro d hd
    refine ⟨?_, opM_lt f d⟩
    by_cases he : d = i
    · rw [he, gi]
      exact hop
    · rw [gd d hd he]
      rfl
  obtain ⟨D', p1, p2, hj⟩ := judgeC (rwc_osl ((LF f τ n).set i z) (by rw [hl]; omega)) (opN := opM f) (by rw [hl]; exact hall)
  rw [hl] at p1 hj
  have eD : D' = List.range n := line (τ := τ) (fun d hd => by
    show atF ((((LF f τ n).set i z)[d]?).getD z9) = _
    by_cases he : d = i
    · rw [he, gi]
      exact hat
    · rw [gd d hd he]
      rfl) p1 p2
  have ej := judge_at (f := f) (τ := τ) (g := fun d => (((LF f τ n).set i z)[d]?).getD z9) (n := n) hi (fun d hd => by
    show kF ((((LF f τ n).set i z)[d]?).getD z9) = _ ∧ vF ((((LF f τ n).set i z)[d]?).getD z9) = _
    by_cases he : d = i
    · rw [he, gi]
      exact ⟨hk, hv⟩
    · rw [gd d hd he]
      exact ⟨rfl, rfl⟩) (fun d hd => gd d (by omega) (by omega)) (by
    show badF ((((LF f τ n).set i z)[i]?).getD z9) _ = true
    rw [gi]
    exact hb) i 0 rfl (Nat.zero_le _)
  have h1 := hj s false b h
  rw [eD, List.range_eq_range'] at h1
  have ej : judgeL (fun d => (((LF f τ n).set i z)[d]?).getD z9) (opM f) (List.range' 0 n) ([], [], []) = some i := ej
  rw [ej] at h1
  exact h1
theorem remq {y n i : Nat} (hn : 0 < n) (h : i = y % n) : (if (Int.ofNat n) = 0 then none else some (AV.int .i64 ((Int.ofNat y).tmod (Int.ofNat n)))) = some (AV.int .i64 (Int.ofNat i)) := by
  rw [if_neg (by simp only [Int.ofNat_eq_natCast]; omega), h]
  rfl
theorem len65 (s : AS) (b n c : Nat) : lenA Try.prog s 65 (.slice b 0 n c) = some (.int .i64 (Int.ofNat n)) := by
  simp only [lenA, show Try.prog.underlying 65 = some (.slice 5) from by kernel_rfl]; rfl
theorem len65n (s : AS) : lenA Try.prog s 65 .nilSlice = some (.int .i64 (Int.ofNat 0)) := by
  simp only [lenA, show Try.prog.underlying 65 = some (.slice 5) from by kernel_rfl]; rfl
theorem idx50 {b n i : Nat} (h : i < n) : (Qst.idx 50 (.osl b 0 n 9) (.int .i64 (Int.ofNat i)) (.ptr b (i * 9))).ok Try.prog := by
  simp only [Qst.ok, indexAddrA, t50, s56]
  simp [h]
theorem s26 : sizeA Try.prog 26 = some 1 := by kernel_rfl
theorem a26 : isAggA Try.prog 26 = some false := by kernel_rfl
section
variable {lA tA : AV} {n nt : Nat} {row trow : List AV} {f : Nat → Do3} {τ : Nat → Nat} (W : RwD lA n row f) (W2 : RwT tA nt trow τ)
include W W2
theorem wrong_main (hn : 0 < n) (hnt : nt ≤ 60) (y0 y1 : Nat) (hy : y0 < 256) :
    ∃ e s1, Sound Try.prog (.call 7 [lA, tA.ren (fun _ => 1), .agg [.int .u8 (Int.ofNat y0), .int .u8 (Int.ofNat y1)]] ⟨⟨[(1, .cells true trow), (0, .cells true row)], 2, none, []⟩, 2⟩) ⟨e, [.bool true], s1⟩ := by
  have hsm := W.small
  have hi : y0 % n < n := Nat.mod_lt _ hn
  generalize hie : y0 % n = i at hi
  obtain ⟨m, rfl⟩ : ∃ m, n = m + 1 := ⟨n - 1, by omega⟩
  have hLi : (LF f τ (m + 1))[i]? = some (callM f τ i) := by simp [LF, hi]
  have eM : oMC (m + 1) (LF f τ (m + 1)) = .cells false (rowsOf callC (LF f τ (m + 1))) := rfl
  have hlA : lA.ren (fun _ => 0) = lA := W.xr _ rfl
  have hmade : ∀ s : AS, s.get 0 = some (.cells true row) → s.get 1 = some (.cells true trow) → Sound Try.prog (.call 24 [lA, tA.ren (fun _ => 1)] s) ⟨.ret, [.tuple [.osl s.nx 0 (m + 1) 9, .osl (s.nx + 1) 0 (m + 1) 1]], (s.push (.cells false (rowsOf callC (LF f τ (m + 1))))).push (oMR (m + 1))⟩ := fun s h0 h1 => by
    have := madeC W W2 h0 h1
    rw [hlA] at this
    exact this
  have hlen : ∀ s, lenA Try.prog s 65 (tA.ren (fun _ => 1)) = some (.int .i64 (Int.ofNat nt)) := fun s => by
    rcases W2.kind with hk | ⟨c, hk⟩
    · have := W2.len s
      rw [hk] at this ⊢
      exact this
    · rw [hk]
      exact len65 s 1 nt c
  have w0 : (Qst.val (some (AV.int .i64 (IntKind.i64.wrap (Int.ofNat y0)))) (AV.int .i64 (Int.ofNat y0))).ok Try.prog := wq _ rfl (by omega)
  have rq : (if (Int.ofNat (m + 1)) = 0 then none else some (AV.int .i64 ((Int.ofNat y0).tmod (Int.ofNat (m + 1))))) = some (AV.int .i64 (Int.ofNat i)) := remq (by omega) hie.symm
  have g1 := gtq (m + 1) 60 false (by simp; omega)
  have g2 := gtq nt 60 false (by simp; omega)
  have e0 := eqN (a := m + 1) (b := 0) (r := false) (by simp)
  have hrow : ∀ s : AS, s.get 3 = some (.cells false (rowsOf callC (LF f τ (m + 1)))) → ∀ (j : Nat) (t : TypeId) (v : AV), isAggA Try.prog t = some false → (callC (callM f τ i))[j]? = some v → (Qst.ld t s (.ptr 3 (i * 9 + j)) v).ok Try.prog := fun s h j t v ha hv => ld_rowCell (f := callC) (n := 9) (fun _ => rfl) ha h hLi hv
  have hans := step_ans (psM f i) (opM f i) (f i).2.1 (f i).2.2
  have hst := stM_ge τ (i + 1)
  have hst2 := stM_le τ (i + 1)
  have c4 : y1 % 4 = 0 ∨ y1 % 4 = 1 ∨ y1 % 4 = 2 ∨ y1 % 4 = 3 := by omega
  rcases c4 with hc | hc | hc | hc
  · have hx2 : (Qst.val (some (AV.int .u8 (IntKind.u8.wrap (Int.ofNat 3 - Int.ofNat (ansM f i).1)))) (AV.int .u8 (Int.ofNat (3 - (ansM f i).1)))).ok Try.prog := by
      simp only [Qst.ok, IntKind.wrap_u8]
      rcases hans with h | h <;> rw [show (ansM f i).1 = _ from h] <;> rfl
    have hsto := fun s h => sto_row (s := s) (b := 3) (i := i) (j := 4) (t := 26) (k := .u8) (x := Int.ofNat (3 - (ansM f i).1)) (z := callM f τ i) (z' := (Int.ofNat (i % 16), Int.ofNat (opM f i), (f i).2.1, (f i).2.2, Int.ofNat (3 - (ansM f i).1), (ansM f i).2, Int.ofNat (stM τ (i + 1) - τ i / 3 % 9), Int.ofNat (stM τ (i + 1)), toM τ i)) s26 h hLi (by simp only [callC, callM, Mini.splice])
    have hj := fun s => judge_wrong (f := f) (τ := τ) hi hsm (z := (Int.ofNat (i % 16), Int.ofNat (opM f i), (f i).2.1, (f i).2.2, Int.ofNat (3 - (ansM f i).1), (ansM f i).2, Int.ofNat (stM τ (i + 1) - τ i / 3 % 9), Int.ofNat (stM τ (i + 1)), toM τ i)) rfl rfl rfl rfl (by
      have h3 : (Int.ofNat (ansM f i).1 != Int.ofNat (3 - (ansM f i).1)) = true := by
        rcases hans with h | h <;> rw [show (ansM f i).1 = _ from h] <;> rfl
      unfold badF
      show (_ || (Int.ofNat (ansM f i).1 != Int.ofNat (3 - (ansM f i).1)) || _) = true
      rw [h3]
      simp) s 3
    exact ⟨_, _, runX_sound mixed none_sound (x_w0 lA (tA.ren fun _ => 1) (m + 1) nt i (i * 9) y0 y1 0 (Int.ofNat (ansM f i).1) (Int.ofNat (3 - (ansM f i).1)) (.cells true row) (.cells true trow) _ (oMR (m + 1)) _) ⟨W.len _, e0, W.len _, g1, hlen _, g2, hmade _ rfl rfl, w0, rq, idx50 hi, congrArg (fun z => some (AV.int .u8 (Int.ofNat z))) hc, rfl, hrow _ rfl 4 26 _ a26 rfl, hx2, ⟨hsto _ rfl, rfl⟩, hj _ rfl, eqN (by simp), livC _, trivial⟩⟩
  · have hsto := fun s h => sto_row (s := s) (b := 3) (i := i) (j := 5) (t := 22) (k := .u64) (x := (IntKind.u64.wrap ((ansM f i).2 + Int.ofNat 1))) (z := callM f τ i) (z' := (Int.ofNat (i % 16), Int.ofNat (opM f i), (f i).2.1, (f i).2.2, Int.ofNat (ansM f i).1, IntKind.u64.wrap ((ansM f i).2 + Int.ofNat 1), Int.ofNat (stM τ (i + 1) - τ i / 3 % 9), Int.ofNat (stM τ (i + 1)), toM τ i)) s22 h hLi (by simp only [callC, callM, Mini.splice])
    have hj := fun s => judge_wrong (f := f) (τ := τ) hi hsm (z := (Int.ofNat (i % 16), Int.ofNat (opM f i), (f i).2.1, (f i).2.2, Int.ofNat (ansM f i).1, IntKind.u64.wrap ((ansM f i).2 + Int.ofNat 1), Int.ofNat (stM τ (i + 1) - τ i / 3 % 9), Int.ofNat (stM τ (i + 1)), toM τ i)) rfl rfl rfl rfl (by
      have h4 : ((ansM f i).2 != IntKind.u64.wrap ((ansM f i).2 + Int.ofNat 1)) = true := by
        rw [wrapU64]
        simp only [Int.ofNat_eq_natCast, bne_iff_ne, ne_eq]
        omega
      unfold badF
      show (_ || ((ansM f i).2 != IntKind.u64.wrap ((ansM f i).2 + Int.ofNat 1))) = true
      rw [h4]
      simp) s 3
    exact ⟨_, _, runX_sound mixed none_sound (x_w1 lA (tA.ren fun _ => 1) (m + 1) nt i (i * 9) y0 y1 1 (ansM f i).2 (IntKind.u64.wrap ((ansM f i).2 + Int.ofNat 1)) (.cells true row) (.cells true trow) _ (oMR (m + 1)) _) ⟨W.len _, e0, W.len _, g1, hlen _, g2, hmade _ rfl rfl, w0, rq, idx50 hi, congrArg (fun z => some (AV.int .u8 (Int.ofNat z))) hc, eqN (by simp), eqN (by simp), hrow _ rfl 5 22 _ a22 rfl, rfl, ⟨hsto _ rfl, rfl⟩, hj _ rfl, eqN (by simp), livC _, trivial⟩⟩
  · have hsto := fun s h => sto_row (s := s) (b := 3) (i := i) (j := 6) (t := 3) (k := .i64) (x := (Int.ofNat (stM τ (i + 1) + 1))) (z := callM f τ i) (z' := (Int.ofNat (i % 16), Int.ofNat (opM f i), (f i).2.1, (f i).2.2, Int.ofNat (ansM f i).1, (ansM f i).2, Int.ofNat (stM τ (i + 1) + 1), Int.ofNat (stM τ (i + 1)), toM τ i)) z3 h hLi (by simp only [callC, callM, Mini.splice])
    have hj := fun s => judge_wrong (f := f) (τ := τ) hi hsm (z := (Int.ofNat (i % 16), Int.ofNat (opM f i), (f i).2.1, (f i).2.2, Int.ofNat (ansM f i).1, (ansM f i).2, Int.ofNat (stM τ (i + 1) + 1), Int.ofNat (stM τ (i + 1)), toM τ i)) rfl rfl rfl rfl (by
      unfold badF
      show (decide (Int.ofNat (stM τ (i + 1) + 1) > Int.ofNat (stM τ (i + 1))) || _ || _ || _) = true
      rw [show decide (Int.ofNat (stM τ (i + 1) + 1) > Int.ofNat (stM τ (i + 1))) = true from decide_eq_true (by simp only [Int.ofNat_eq_natCast]; omega)]
      simp) s 3
    exact ⟨_, _, runX_sound mixed none_sound (x_w2 lA (tA.ren fun _ => 1) (m + 1) nt i (i * 9) y0 y1 2 (Int.ofNat (stM τ (i + 1))) (Int.ofNat (stM τ (i + 1) + 1)) (.cells true row) (.cells true trow) _ (oMR (m + 1)) _) ⟨W.len _, e0, W.len _, g1, hlen _, g2, hmade _ rfl rfl, w0, rq, idx50 hi, congrArg (fun z => some (AV.int .u8 (Int.ofNat z))) hc, eqN (by simp), eqN (by simp), eqN (by simp), hrow _ rfl 7 3 _ a3 rfl, wq _ rfl (by omega), ⟨hsto _ rfl, rfl⟩, hj _ rfl, eqN (by simp), livC _, trivial⟩⟩
  · have hsto := fun s h => sto_row (s := s) (b := 3) (i := i) (j := 8) (t := 3) (k := .i64) (x := (Int.ofNat (stM τ (i + 1) - 1))) (z := callM f τ i) (z' := (Int.ofNat (i % 16), Int.ofNat (opM f i), (f i).2.1, (f i).2.2, Int.ofNat (ansM f i).1, (ansM f i).2, Int.ofNat (stM τ (i + 1) - τ i / 3 % 9), Int.ofNat (stM τ (i + 1)), Int.ofNat (stM τ (i + 1) - 1))) z3 h hLi (by simp only [callC, callM, Mini.splice])
    have hj := fun s => judge_wrong (f := f) (τ := τ) hi hsm (z := (Int.ofNat (i % 16), Int.ofNat (opM f i), (f i).2.1, (f i).2.2, Int.ofNat (ansM f i).1, (ansM f i).2, Int.ofNat (stM τ (i + 1) - τ i / 3 % 9), Int.ofNat (stM τ (i + 1)), Int.ofNat (stM τ (i + 1) - 1))) rfl rfl rfl rfl (by
      unfold badF
      show (_ || ((Int.ofNat (stM τ (i + 1) - 1) != Int.negSucc 0) && decide (Int.ofNat (stM τ (i + 1)) > Int.ofNat (stM τ (i + 1) - 1))) || _ || _) = true
      rw [show decide (Int.ofNat (stM τ (i + 1)) > Int.ofNat (stM τ (i + 1) - 1)) = true from decide_eq_true (by simp only [Int.ofNat_eq_natCast]; omega), show (Int.ofNat (stM τ (i + 1) - 1) != Int.negSucc 0) = true from rfl]
      simp) s 3
    exact ⟨_, _, runX_sound mixed none_sound (x_w3 lA (tA.ren fun _ => 1) (m + 1) nt i (i * 9) y0 y1 3 (Int.ofNat (stM τ (i + 1))) (Int.ofNat (stM τ (i + 1) - 1)) (.cells true row) (.cells true trow) _ (oMR (m + 1)) _) ⟨W.len _, e0, W.len _, g1, hlen _, g2, hmade _ rfl rfl, w0, rq, idx50 hi, congrArg (fun z => some (AV.int .u8 (Int.ofNat z))) hc, eqN (by simp), eqN (by simp), eqN (by simp), hrow _ rfl 7 3 _ a3 rfl, sub_q (by omega) rfl (by omega), ⟨hsto _ rfl, rfl⟩, hj _ rfl, eqN (by simp), livC _, trivial⟩⟩
end
end Go.Proofs.Ythooafgfpnedhaa.specsWrong
