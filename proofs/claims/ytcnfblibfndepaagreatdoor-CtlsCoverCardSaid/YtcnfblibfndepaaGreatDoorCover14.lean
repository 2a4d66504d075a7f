/- The law, called. Conditions: those that each theorem names, and no others. -/
import Derived.Test.YtcnfblibfndepaaGreatDoorCover13
namespace Go.Proofs.YtcnfblibfndepaaGreatDoor.ctlsCover
open Go Go.Mini
/-! ### the law, called -/
theorem sh_a (fr lk nL : Nat) (lT lL : AV) (FT FL : List AV) : (runX Tryz.prog none_ 60 3 (.code lawC (T0 fr lk lT lL) (sZ FT FL)) [.val 3 1 2 (.int .i64 (Int.ofNat nL)), .val 3 1 3 (.bool true), .pure 3 2 0 GF (.bool true)]).map (fun x => (x.1.e, x.1.ts[2]?, x.2.2)) = some (.ret, some (.bool true), [.ln 22 (sB fr lk lT lL FT FL) lL (.int .i64 (Int.ofNat nL)), .val (some (.bool (decide (Int.ofNat nL > 900)))) (.bool true), .pure GF 4 [] (.bool true)]) := by kernel_rfl
theorem sh_b (fr lk nL nT : Nat) (lT lL : AV) (FT FL : List AV) : (runX Tryz.prog none_ 60 3 (.code lawC (T0 fr lk lT lL) (sZ FT FL)) [.val 3 1 2 (.int .i64 (Int.ofNat nL)), .val 3 1 3 (.bool false), .val 3 1 7 (.int .i64 (Int.ofNat nT)), .val 3 1 8 (.bool true), .pure 3 2 0 GF (.bool true)]).map (fun x => (x.1.e, x.1.ts[2]?, x.2.2)) = some (.ret, some (.bool true), [.ln 22 (sB fr lk lT lL FT FL) lL (.int .i64 (Int.ofNat nL)), .val (some (.bool (decide (Int.ofNat nL > 900)))) (.bool false), .ln 22 (sB fr lk lT lL FT FL) lT (.int .i64 (Int.ofNat nT)), .val (some (.bool (Int.ofNat nT == 0))) (.bool true), .pure GF 4 [] (.bool true)]) := by kernel_rfl
theorem end_run (zb b sa : Nat) (l xv : AV) (to many i : Nat) (j : Nat → AV) (s : AS) : (runX Tryz.prog none_ 60 3 (.code cRest (TL zb b sa l xv to many i j) s) [.call 3 34 0 (.bool true) (fun _ => s)]).map (fun x => (x.1.e, x.1.ts[2]?, x.2.2)) = some (.ret, some (.bool true), [.snd (.call 4 [] s) ⟨.ret, [.bool true], s⟩]) := by kernel_rfl
theorem res2 {n : Nat} {c : Code} {T : List AV} {s : AS} {ds : List Dec} {q : List Qst} (h : (runX Tryz.prog none_ n 3 (.code c T s) ds).map (fun x => (x.1.e, x.1.ts[2]?, x.2.2)) = some (.ret, some (.bool true), q)) (hq : Qsts Tryz.prog q) : ∃ ts s1, tget ts 2 = .bool true ∧ Sound Tryz.prog (.code c T s) ⟨.ret, ts, s1⟩ := by
  cases hr : runX Tryz.prog none_ n 3 (.code c T s) ds with
  | none => rw [hr] at h; cases h
  | some x =>
    rw [hr] at h
    obtain ⟨⟨e, ts', s1⟩, ds', q'⟩ := x
    simp only [Option.map_some, Option.some.injEq, Prod.mk.injEq] at h
    obtain ⟨rfl, h2, rfl⟩ := h
    refine ⟨ts', s1, ?_, runX_sound mixed none_sound hr hq⟩
    show (ts'[2]?).getD undefA = _
    rw [h2]
    rfl
theorem law_of {fr lk : Nat} {lT lL : AV} {FT FL : List AV} (H : ∃ ts s1, tget ts 2 = .bool true ∧ Sound Tryz.prog (.code lawC (T0 fr lk lT lL) (sZ FT FL)) ⟨.ret, ts, s1⟩) : ∃ e s1, Sound Tryz.prog (.call 3 [.agg [.int .u8 (Int.ofNat fr), lT, .int .u8 (Int.ofNat lk), lL]] (sZ FT FL)) ⟨e, [.bool true], s1⟩ := by
  have res : Tryz.f3.results.toList = [ResultVar.tmp 2] := by kernel_rfl
  have nt : Tryz.f3.ntmps = 124 := by kernel_rfl
  obtain ⟨ts, s1, ht, h⟩ := H
  refine ⟨.ret, s1, call_whole (fn := Tryz.f3) (c := lawC) (ts := ts) (vs := [.bool true]) Tryz.func3 law_body ?_ (.inr rfl) ?_⟩
  · rw [nt]
    exact h
  · rw [res]
    simp only [resultsA, resultA, ht]
theorem q900 {n : Nat} {v : Bool} (h : decide (n > 900) = v) : (Qst.val (some (.bool (decide (Int.ofNat n > 900)))) (.bool v)).ok Tryz.prog := by
  rw [Qst.ok, ← h]
  congr 2
  simp only [Int.ofNat_eq_natCast, decide_eq_decide]
  omega
theorem q0 {n : Nat} {v : Bool} (h : (n == 0) = v) : (Qst.val (some (.bool (Int.ofNat n == 0))) (.bool v)).ok Tryz.prog := by
  rw [Qst.ok, ← h]
  congr 2
  cases n <;> rfl
theorem law_short {fr lk nL nT : Nat} {lT lL : AV} {FT FL : List AV} (hL : ∀ s, lenA Tryz.prog s 22 lL = some (.int .i64 (Int.ofNat nL))) (hT : ∀ s, lenA Tryz.prog s 22 lT = some (.int .i64 (Int.ofNat nT))) (h : nL > 900 ∨ nT = 0) : ∃ e s1, Sound Tryz.prog (.call 3 [.agg [.int .u8 (Int.ofNat fr), lT, .int .u8 (Int.ofNat lk), lL]] (sZ FT FL)) ⟨e, [.bool true], s1⟩ := by
  refine law_of ?_
  by_cases h9 : nL > 900
  · exact res2 (sh_a fr lk nL lT lL FT FL) ⟨hL _, q900 (decide_eq_true h9), lives_q, trivial⟩
  · have h0 : nT = 0 := h.resolve_left h9
    exact res2 (sh_b fr lk nL nT lT lL FT FL) ⟨hL _, q900 (decide_eq_false h9), hT _, q0 (by rw [h0]; rfl), lives_q, trivial⟩
theorem uTs : Tryz.prog.underlying 39 = some (.slice 45) := by kernel_rfl
theorem ts_idx : ∀ i, i < 4 → indexAddrA Tryz.prog 39 (.slice 25 0 4 4) (.int .i64 (Int.ofNat i)) = some (.ptr 25 (3 * i))
  | 0, _ => by kernel_rfl
  | 1, _ => by kernel_rfl
  | 2, _ => by kernel_rfl
  | 3, _ => by kernel_rfl
  | i + 4, h => absurd h (by omega)
theorem ts_l : TsL (.slice 25 0 4 4) 25 := ⟨fun s => by simp only [lenA, uTs]; rfl, ts_idx⟩
theorem pre_sound {q fr lk nL nT : Nat} {lT lL : AV} {FT FL : List AV} (hq : q < 3) (hf : fr % 3 = q) (hL : ∀ s, lenA Tryz.prog s 22 lL = some (.int .i64 (Int.ofNat nL))) (hT : ∀ s, lenA Tryz.prog s 22 lT = some (.int .i64 (Int.ofNat nT))) (h9 : ¬ nL > 900) (h0 : nT ≠ 0) :
    ∃ ts1 s1 j s2, (∀ c r, Sound Tryz.prog (.code c ts1 s1) r → Sound Tryz.prog (.code (seqs ps c) (T0 fr lk lT lL) (sZ FT FL)) r) ∧ Sound Tryz.prog (.code cI ts1 s1) ⟨.normal, TL 5 7 8 (.slice 25 0 4 4) .nilPtr 1 0 0 j, s2⟩ ∧ (∀ y ∈ tab q fr lk lT lL FT FL, s2.get y.1 = some y.2) ∧ s2.h.bs.all (fun y => Nat.blt y.1 s2.nx) = true := by
  have h := pre_run fr lk nL nT lT lL FT FL q hq
  unfold preR at h
  split at h
  case h_2 => cases h
  rename_i e1 ts1 s1 d1 q1 hr1
  split at h
  case h_2 => cases h
  rename_i ts2 s2 d2 q2 hr2
  simp only [Option.some.injEq, Prod.mk.injEq, look9, slots, List.map_cons, List.map_nil, List.cons.injEq, and_true] at h
  obtain ⟨⟨hl, g1, g2, g3, g4, g5, g7, g8, g9, g10⟩, ht, hk, rfl, rfl⟩ := h
  have hs := runX_sound mixed none_sound hr2 trivial
  rw [TL_of (zb := 5) (b := 7) (sa := 8) (l := .slice 25 0 4 4) (xv := .nilPtr) (to := 1) (many := 0) (i := 0) hl g1 g2 g3 g4 g5 g7 g8 g9 g10] at hs
  refine ⟨ts1, s1, _, s2, runPs_ok mixed none_sound ps _ _ _ _ _ _ _ _ hr1 ⟨hL _, q900 (decide_eq_false h9), hT _, q0 (by simpa using h0), by rw [Qst.ok, hf], trivial⟩, hs, fun y hy => ?_, hk⟩
  exact List.map_inj_left.1 ht y hy
theorem law_call {fr lk : Nat} {lT lL : AV} {FT FL : List AV} {bT bL : List Nat} (hlk : lk < 256) (WT : RwB lT 3 FT bT) (WL : RwB lL 4 FL bL) : ∃ e s1, Sound Tryz.prog (.call 3 [.agg [.int .u8 (Int.ofNat fr), lT, .int .u8 (Int.ofNat lk), lL]] (sZ FT FL)) ⟨e, [.bool true], s1⟩ := by
  by_cases hsh : bL.length > 900 ∨ bT.length = 0
  · exact law_short WL.len WT.len hsh
  have h9 : ¬ bL.length > 900 := fun h => hsh (.inl h)
  have h0 : bT.length ≠ 0 := fun h => hsh (.inr h)
  refine law_of ?_
  have hq : fr % 3 < 3 := Nat.mod_lt _ (by decide)
  obtain ⟨ts1, s1, j, s2, hgo, hI, ht, hk⟩ := pre_sound (lk := lk) (FT := FT) (FL := FL) hq rfl WL.len WT.len h9 h0
  have L := lay0 ht hk
  have W := wi0 hq
  have E : EnvL 5 8 4 3 25 lL lT (.slice 25 0 4 4) FL FT bL bT lk Ks0 := ⟨WL, WT, fun e => h0 (by rw [e]; rfl), by omega, ts_l, hlk, ⟨by simp [Ks0], by decide⟩, ⟨by simp [Ks0], by decide⟩, ⟨by simp [Ks0], by decide⟩, ⟨by simp [Ks0], by decide⟩⟩
  have Z : KZ 5 8 4 3 lL lT FL FT lk s2 := ⟨⟨false, _, ht (5, .cells false [.int .u8 (Int.ofNat fr), lT, .int .u8 (Int.ofNat lk), lL]) (by simp [tab])⟩, ⟨true, ht (4, .cells true FL) (by simp [tab])⟩, ⟨true, ht (3, .cells true FT) (by simp [tab])⟩, ⟨false, ht (8, .cells false SaC) (by simp [tab])⟩⟩
  obtain ⟨to', many', xv', s3, j3, hL, hg⟩ := law_loop E bL.length 0 1 0 0 .nilPtr ts0 [] 0 (scN (fr % 3)) 0 NN (MP (fr % 3)) s2 psi0 j (by omega) (by omega) (by omega) (by omega) L W Z (.inl ⟨rfl, .inl rfl⟩)
  obtain ⟨ts4, s4, h4, h5⟩ := res2 (end_run 5 (w0 7) 8 (.slice 25 0 4 4) xv' to' many' bL.length j3 s3) ⟨lives_q s3 hg, trivial⟩
  refine ⟨ts4, s4, h4, ?_⟩
  rw [law_eq]
  exact hgo _ _ (seq_next (seq_next hI (block_exit hL rfl)) h5)
end Go.Proofs.YtcnfblibfndepaaGreatDoor.ctlsCover
