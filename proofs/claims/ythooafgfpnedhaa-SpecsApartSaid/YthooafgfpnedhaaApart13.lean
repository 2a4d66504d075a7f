/- The law SpecsApart answers true, for all arguments. Conditions: those that each theorem names, and no others. -/
import Derived.Test.YthooafgfpnedhaaApart12
namespace Go.Proofs.Ythooafgfpnedhaa.specsApart
open Go Go.Mini
theorem bigR (x : AV) (n : Nat) (rest : List (Nat × AObj)) : runX Try.prog none_ 80 4 (.call 4 [x] ⟨⟨rest, 1, none, []⟩, 1⟩) [.val 4 1 1 (.int .i64 (Int.ofNat n)), .val 4 1 2 (.bool true), .call 4 2 0 (.bool true) id] = some ({ e := AExit.ret, ts := [AV.bool true], s := { h := { bs := rest, len := 1, esc := none, wr := [] }, nx := 1 } }, [], [Qst.ln 47 { h := { bs := rest, len := 1, esc := none, wr := [] }, nx := 1 } x (AV.int IntKind.i64 (Int.ofNat n)), Qst.val (some (AV.bool (decide (Int.ofNat n > 100)))) (AV.bool true), Qst.snd (Task.call 17 [] { h := { bs := rest, len := 1, esc := none, wr := [] }, nx := 1 }) { e := AExit.ret, ts := [AV.bool true], s := { h := { bs := rest, len := 1, esc := none, wr := [] }, nx := 1 } }]) := by kernel_rfl
theorem gt_q (n : Nat) (r : Bool) (h : decide (100 < n) = r) : (Qst.val (some (AV.bool (decide (Int.ofNat n > 100)))) (AV.bool r)).ok Try.prog := by
  simp only [Qst.ok]
  rw [← h]
  congr 2
  simp
  omega
theorem c0_eq : c0 = .seq pc0 (.seq pc1 (.seq pc2 (.seq pc3 (.seq pc4 (.seq (.seq pc5 (.block 0 (.loop (loopAt Try.prog 4 0)))) sufC))))) := by kernel_rfl
def ph : AObj := .map [] [] 0
def stN : St := ⟨.nilMap, .nilMap, .nilSlice, .nilMap, .nilSlice, .nilMap, .nilSlice, .nilSlice, ph, ph, ph, ph, ph, ph, ph, ph⟩
theorem inv0 : Inv none none none none none stN :=
  ⟨And.intro rfl ⟨rfl, rfl⟩, And.intro rfl ⟨rfl, rfl⟩, And.intro rfl ⟨rfl, rfl⟩, And.intro rfl ⟨rfl, rfl⟩, And.intro rfl ⟨rfl, rfl⟩, And.intro rfl ⟨rfl, rfl⟩, And.intro rfl ⟨rfl, rfl⟩, And.intro rfl ⟨rfl, rfl⟩⟩
section
variable {x : AV} {n : Nat} {row : List AV} {f : Nat → Int × Int × Int} (W : Rw x n row f)
include W
theorem allC : ∃ s', Sound Try.prog (.code c0 (x :: List.replicate 164 undefA) ⟨⟨[(8, ph), (7, ph), (6, ph), (5, ph), (4, ph), (3, ph), (2, ph), (1, ph), (0, .cells true row)], 9, none, []⟩, 9⟩) ⟨.ret, TZ, s'⟩ := by
  obtain ⟨S', T', Q', I', O', st', inv1, pl1, g⟩ := loop_all W n 0 rfl (Nat.zero_le _) inv0 ⟨by simp, rfl, Nat.zero_le _, fun z hz => (by cases hz), List.nodup_nil, List.nodup_nil⟩
  obtain ⟨s2, h2, hs2⟩ := sufAll W inv1 pl1
  have g5 : Go.Mini.Good Try.prog [(0, row)] (CA stN row) ft _ pc5 .normal (TA x stN.iv stN.ov 0) (CA stN row) ft :=
    fin (runX_sound mixed none_sound (pp5 x n ph ph ph ph ph ph ph ph row) trivial) (fun b => b) inv0 rfl rfl rfl rfl rfl rfl (by decide) (by decide) W.nm rfl rfl rfl rfl rfl rfl rfl rfl rfl rfl rfl rfl rfl rfl ⟨.inr (.inr ⟨13, by decide, rfl⟩), .inr (.inr ⟨12, by decide, rfl⟩), .inr (.inr ⟨11, by decide, rfl⟩), .inr (.inr ⟨10, by decide, rfl⟩), .inr (.inr ⟨9, by decide, rfl⟩), .inr (.inr ⟨8, by decide, rfl⟩), .inr (.inr ⟨7, by decide, rfl⟩), .inr (.inr ⟨6, by decide, rfl⟩), .inr (.inr ⟨5, by decide, rfl⟩), .inr (.inr ⟨4, by decide, rfl⟩), .inr (.inr ⟨3, by decide, rfl⟩), .inr (.inr ⟨2, by decide, rfl⟩), .inr (.inr ⟨1, by decide, rfl⟩), .inr (.inr ⟨0, by decide, rfl⟩), trivial⟩ rfl (Nat.le_of_ble_eq_true rfl) (fun b h1 h2 => by rw [only0 h1 h2]; rfl) (W.xr _ rfl) W.xn rfl rfl
      (by
        unfold TA
        repeat (first | exact rfl | refine ⟨_, _, rfl, ?_, ?_⟩ | exact .inr ⟨rfl, rfl⟩ | exact .inl ⟨rfl, rfl⟩ | exact .inl ⟨W.na.1.symm, W.na.2⟩ | exact see_same _))
  obtain ⟨π, s', h⟩ := Good.seq_end (Good.seq_next (show 0 < 14 by decide) hCA g5 (Good.block_exit g)) h2 hs2 (show (true && (true && (true && namess _ (List.replicate 162 uu)))) = true by rw [names_rep]; rfl)
  have hz : rens π TZ = TZ := by
    show uu.ren π :: uu.ren π :: AV.bool true :: rens π (List.replicate 162 uu) = _
    rw [rens_rep]
    rfl
  rw [hz] at h
  refine ⟨s', ?_⟩
  rw [c0_eq]
  have q1 := gt_q n false (by have := W.small; simp; omega)
  exact seq_next (runX_sound mixed none_sound (pp0 x n ph ph ph ph ph ph ph ph row) trivial) (seq_next (runX_sound mixed none_sound (pp1 x n ph ph ph ph ph ph ph ph row) ⟨W.len _, q1, trivial⟩) (seq_next (runX_sound mixed none_sound (pp2 x n ph ph ph ph ph ph ph ph row) trivial) (seq_next (runX_sound mixed none_sound (pp3 x n ph ph ph ph ph ph ph ph row) trivial) (seq_next (runX_sound mixed none_sound (pp4 x n ph ph ph ph ph ph ph ph row) trivial) h))))
theorem allCall : ∃ e s1, Sound Try.prog (.call 4 [x] ⟨⟨[(0, .cells true row)], 1, none, []⟩, 1⟩) ⟨e, [.bool true], s1⟩ := by
  obtain ⟨s', h⟩ := allC W
  have hc : Sound Try.prog (.call 4 [x] ⟨⟨[(8, ph), (7, ph), (6, ph), (5, ph), (4, ph), (3, ph), (2, ph), (1, ph), (0, .cells true row)], 9, none, []⟩, 9⟩) ⟨.ret, [oneOrTuple [.bool true]], leave ⟨⟨[(8, ph), (7, ph), (6, ph), (5, ph), (4, ph), (3, ph), (2, ph), (1, ph), (0, .cells true row)], 9, none, []⟩, 9⟩ s' (oneOrTuple [.bool true])⟩ :=
    call_sound (fn := Try.f4) (c := c0) Try.func4 (by kernel_rfl) h (.inr rfl) (by kernel_rfl)
  exact ⟨_, _, Sound.phantom ph (Sound.phantom ph (Sound.phantom ph (Sound.phantom ph (Sound.phantom ph (Sound.phantom ph (Sound.phantom ph (Sound.phantom ph hc)))))))⟩
end
theorem bigCall {x : AV} {n : Nat} (hl : ∀ s, lenA Try.prog s 47 x = some (.int .i64 (Int.ofNat n))) (hn : 100 < n) (rest : List (Nat × AObj)) : ∃ e s1, Sound Try.prog (.call 4 [x] ⟨⟨rest, 1, none, []⟩, 1⟩) ⟨e, [.bool true], s1⟩ :=
  ⟨_, _, runX_sound mixed none_sound (bigR x n rest) ⟨hl _, gt_q n true (by simpa using hn), livC _, trivial⟩⟩
def doC (z : Int × Int × Int) : List AV := [.int .u8 z.1, .int .u64 z.2.1, .int .u64 z.2.2]
theorem t47 : Try.prog.underlying 47 = some (.slice 24) := by kernel_rfl
theorem s24 : sizeA Try.prog 24 = some 3 := by kernel_rfl
theorem a5 : isAggA Try.prog 5 = some false := by kernel_rfl
theorem rows_do : ∀ (rows : List (List SD)) (s : AS), Tyss rows [.int .u8, .int .u64, .int .u64] → ∃ L : List (Int × Int × Int), absRows rows s = (rowsOf doC L, s) ∧ L.length = rows.length ∧ ∀ z ∈ L, 0 ≤ z.1
  | [], s, _ => ⟨[], rfl, rfl, by simp⟩
  | r :: rs, s, h => by
    obtain ⟨h1, h2⟩ := h
    obtain ⟨L, e1, e2, e3⟩ := rows_do rs s h2
    match r, h1 with
    | [x1, x2, x3], ⟨k1, k2, k3, _⟩ =>
      cases x1 <;> simp only [Ty] at k1
      cases x2 <;> simp only [Ty] at k2
      cases x3 <;> simp only [Ty] at k3
      obtain ⟨rfl, w1⟩ := k1
      obtain ⟨rfl, w2⟩ := k2
      obtain ⟨rfl, w3⟩ := k3
      rename_i n1 n2 n3
      have b1 := bounds_u8 w1
      refine ⟨(n1, n2, n3) :: L, ?_, by simp [e2], fun z hz => ?_⟩
      · have e4 : absCs [.i .u8 n1, .i .u64 n2, .i .u64 n3] s = (doC (n1, n2, n3), s) := by
          simp only [absCs, absC, doC]
        show ((absCs [.i .u8 n1, .i .u64 n2, .i .u64 n3] s).1 ++ (absRows rs (absCs [.i .u8 n1, .i .u64 n2, .i .u64 n3] s).2).1, (absRows rs (absCs [.i .u8 n1, .i .u64 n2, .i .u64 n3] s).2).2) = _
        rw [e4]
        simp only [e1]
        rfl
      · rcases List.mem_cons.1 hz with rfl | hz
        · exact b1.1
        · exact e3 z hz
theorem rw_nil : Rw .nilSlice 0 [] (fun _ => (0, 0, 0)) where
  len s := by simp only [lenA, t47]; rfl
  at_ i hi := by omega
  small := by decide
  op i hi := by omega
  nm := rfl
  xr π _ := rfl
  xn := rfl
  na := ⟨rfl, rfl⟩
theorem rw_sl (L : List (Int × Int × Int)) (hL : ∀ z ∈ L, 0 ≤ z.1) (len c : Nat) (h1 : len ≤ L.length) (h2 : len ≤ 100) : Rw (.slice 0 0 len c) len (rowsOf doC L) (fun i => (L[i]?).getD (0, 0, 0)) where
  len s := by simp only [lenA, t47]; rfl
  at_ i hi := by
    have hx : L[i]? = some ((L[i]?).getD (0, 0, 0)) := by
      rw [List.getElem?_eq_getElem (by omega)]
      rfl
    refine ⟨0 + i * 3, idx_slice t47 s24 hi, fun s hs => ⟨?_, ?_, ?_⟩⟩
    · rw [Nat.zero_add]
      exact ld_rowCell (f := doC) (n := 3) (i := 0) (fun _ => rfl) a5 hs hx rfl
    · rw [Nat.zero_add]
      exact ld_rowCell (f := doC) (n := 3) (i := 1) (fun _ => rfl) a22 hs hx rfl
    · rw [Nat.zero_add]
      exact ld_rowCell (f := doC) (n := 3) (i := 2) (fun _ => rfl) a22 hs hx rfl
  small := h2
  op i hi := by
    rw [List.getElem?_eq_getElem (by omega)]
    exact hL _ (List.getElem_mem _)
  nm := names_rows (fun _ => rfl) L
  xr π h := by simp [AV.ren, h]
  xn := rfl
  na := ⟨rfl, rfl⟩
def apks : List Pk := [⟨false, [.sl [.int .u8, .int .u64, .int .u64]]⟩]
theorem amain (xs : List (Bool × List SD)) (h : Fits xs apks) : ∃ e s1, Sound Try.prog (.call 4 (absArgs xs (startS Try.prog [])).1 (absArgs xs (startS Try.prog [])).2) ⟨e, [.bool true], s1⟩ := by
  match xs, h with
  | [(b, [y])], ⟨h3, ⟨h4, _⟩, _⟩ =>
    simp only at h3 h4
    subst h3
    have e0 : startS Try.prog [] = ⟨⟨[], 0, none, []⟩, 0⟩ := by
      show (⟨⟨[], 0, none, []⟩, Try.prog.globals.size⟩ : AS) = _
      rw [noG]
    cases y with
    | nil =>
      obtain ⟨e, s1, hs⟩ := allCall rw_nil
      refine ⟨e, s1, ?_⟩
      rw [e0]
      exact Sound.phantom (.cells true []) hs
    | sl rows len =>
      simp only [Ty] at h4
      obtain ⟨l1, l2, l3⟩ := h4
      obtain ⟨L, e1, e2, e3⟩ := rows_do rows ⟨⟨[], 0, none, []⟩, 0⟩ l3
      have e5 : absArgs [(false, [.sl rows len])] ⟨⟨[], 0, none, []⟩, 0⟩ = ([.slice 0 0 len rows.length], ⟨⟨[(0, .cells true (rowsOf doC L))], 1, none, []⟩, 1⟩) := by
        simp only [absArgs, absCs, absC, e1]
        rfl
      rw [e0, e5]
      by_cases hn : len ≤ 100
      · exact allCall (rw_sl L e3 len rows.length (by omega) hn)
      · exact bigCall (fun s => by simp only [lenA, t47]; rfl) (by omega) _
    | _ => simp only [Ty] at h4
end Go.Proofs.Ythooafgfpnedhaa.specsApart
