/- The law, called. Conditions: those that each theorem names, and no others. -/
import Derived.Test.YtofbdgmknfbkfaaGreatDoorLife19
namespace Go.Proofs.YtofbdgmknfbkfaaGreatDoor.nodesLife
open Go Go.Mini
/-! ### the law, called -/
theorem r37_t (s : AS) (zb m tb sp n : Nat) (lV gv : AV) (j : Nat → AV) : rT 3 cR37 (TL zb m tb sp lV gv (i64 (Int.ofNat n)) (j 12) (j 13) (j 17) (j 18) (j 19) j) s [] = rTR 3 cR37 (TL zb m tb sp lV gv (i64 (Int.ofNat n)) (j 12) (j 13) (j 17) (j 18) (j 19) j) s [] (fun j => TL zb m tb sp lV gv (j 11) (j 12) (j 13) (j 17) (i64 0) (j 19) j) .normal s := by kernel_rfl
theorem r37_q (s : AS) (zb m tb sp n : Nat) (lV gv : AV) (j : Nat → AV) : rQ 3 cR37 (TL zb m tb sp lV gv (i64 (Int.ofNat n)) (j 12) (j 13) (j 17) (j 18) (j 19) j) s [] = some [] := by kernel_rfl
theorem r42_t (s : AS) (zb m tb sp n : Nat) (lV gv : AV) (j : Nat → AV) : rT 3 cR42 (TL zb m tb sp lV gv (j 11) (j 12) (j 13) (j 17) (i64 (Int.ofNat n)) (j 19) j) s [] = rTR 3 cR42 (TL zb m tb sp lV gv (j 11) (j 12) (j 13) (j 17) (i64 (Int.ofNat n)) (j 19) j) s [] (fun j => TL zb m tb sp lV gv (j 11) (j 12) (j 13) (j 17) (j 18) (i64 0) j) .normal s := by kernel_rfl
theorem r42_q (s : AS) (zb m tb sp n : Nat) (lV gv : AV) (j : Nat → AV) : rQ 3 cR42 (TL zb m tb sp lV gv (j 11) (j 12) (j 13) (j 17) (i64 (Int.ofNat n)) (j 19) j) s [] = some [] := by kernel_rfl
theorem end_run (s : AS) (zb m tb sp n : Nat) (lV gv : AV) (j : Nat → AV) : (runX Tryz.prog none_ 60 3 (.code cEnd (TL zb m tb sp lV gv (j 11) (j 12) (j 13) (j 17) (j 18) (i64 (Int.ofNat n)) j) s) [.call 3 49 0 (.bool true) (fun _ => s)]).map (fun x => (x.1.e, x.1.ts[4]?, x.2.2)) = some (.ret, some (.bool true), [.snd (.call 4 [] s) ⟨.ret, [.bool true], s⟩]) := by kernel_rfl
theorem sh_run (lV : AV) (FL : List AV) (z0 z1 z2 nL : Nat) : (runX Tryz.prog none_ 60 3 (.code lawC (T0 lV z0 z1 z2) (sZ FL)) [.val 3 1 1 (i64 (Int.ofNat nL)), .val 3 1 2 (.bool true), .pure 3 2 0 GF (.bool true)]).map (fun x => (x.1.e, x.1.ts[4]?, x.2.2)) = some (.ret, some (.bool true), [.ln 22 (sY z0 z1 z2 FL) lV (i64 (Int.ofNat nL)), .val (some (.bool (decide (Int.ofNat nL > 300)))) (.bool true), .pure GF 4 [] (.bool true)]) := by kernel_rfl
theorem resL {c : Code} {T : List AV} {s : AS} {ds : List Dec} {q : List Qst} (h : (runX Tryz.prog none_ 60 3 (.code c T s) ds).map (fun x => (x.1.e, x.1.ts[4]?, x.2.2)) = some (.ret, some (.bool true), q)) (hq : Qsts Tryz.prog q) : ∃ ts s1, tget ts 4 = .bool true ∧ Sound Tryz.prog (.code c T s) ⟨.ret, ts, s1⟩ := by
  cases hr : runX Tryz.prog none_ 60 3 (.code c T s) ds with
  | none => rw [hr] at h; cases h
  | some x =>
    rw [hr] at h
    obtain ⟨⟨e, ts', s1⟩, ds', q'⟩ := x
    simp only [Option.map_some, Option.some.injEq, Prod.mk.injEq] at h
    obtain ⟨rfl, h2, rfl⟩ := h
    refine ⟨ts', s1, ?_, runX_sound mixed none_sound hr hq⟩
    show (ts'[4]?).getD undefA = _
    rw [h2]
    rfl
theorem law_of {lV : AV} {z0 z1 z2 : Nat} {FL : List AV} (H : ∃ ts s1, tget ts 4 = .bool true ∧ Sound Tryz.prog (.code lawC (T0 lV z0 z1 z2) (sZ FL)) ⟨.ret, ts, s1⟩) : ∃ e s1, Sound Tryz.prog (.call 3 [lV, .agg [u8 z0, u8 z1, u8 z2]] (sZ FL)) ⟨e, [.bool true], s1⟩ := by
  have res : Tryz.f3.results.toList = [ResultVar.tmp 4] := by kernel_rfl
  have nt : Tryz.f3.ntmps = 203 := by kernel_rfl
  obtain ⟨ts, s1, ht, h⟩ := H
  refine ⟨.ret, s1, call_whole (fn := Tryz.f3) (c := lawC) (ts := ts) (vs := [.bool true]) Tryz.func3 law_body ?_ (.inr rfl) ?_⟩
  · rw [nt]
    exact h
  · rw [res]
    exact res4 ht
theorem q300 {n : Nat} {v : Bool} (h : decide (n > 300) = v) : (Qst.val (some (.bool (decide (Int.ofNat n > 300)))) (.bool v)).ok Tryz.prog := by
  rw [Qst.ok, ← h]
  congr 2
  simp only [Int.ofNat_eq_natCast, decide_eq_decide]
  omega
theorem u32_ok {z : Nat} (hz : z < 256) : (Qst.val (some (.int .u32 (Int.ofNat (z % ((2 : Int) ^ IntKind.u32.bits).natAbs)))) (u32 z)).ok Tryz.prog := by
  rw [Qst.ok]
  show some (AV.int .u32 (Int.ofNat (z % 4294967296))) = _
  rw [Nat.mod_eq_of_lt (by omega)]
  rfl
theorem qz3_ok {z1 z2 : Nat} (h1 : z1 < 256) (h2 : z2 < 256) {l : List Qst} (hl : Qsts Tryz.prog l) : Qsts Tryz.prog (qz3 z1 z2 (z1 % 4) (z2 % 4) ++ l) := qsts_app.2 ⟨⟨q_w (by omega) rfl, rfl, u32_ok h2, rfl, trivial⟩, hl⟩
theorem law_call {lV : AV} {FL : List AV} {bL : List Nat} {z0 z1 z2 : Nat} (h0 : z0 < 256) (h1 : z1 < 256) (h2 : z2 < 256) (W : RwU lV 2 FL bL) : ∃ e s1, Sound Tryz.prog (.call 3 [lV, .agg [u8 z0, u8 z1, u8 z2]] (sZ FL)) ⟨e, [.bool true], s1⟩ := by
  refine law_of ?_
  by_cases h3 : bL.length > 300
  · exact resL (sh_run lV FL z0 z1 z2 bL.length) ⟨W.len _, q300 (decide_eq_true h3), lives_q, trivial⟩
  obtain ⟨a, b, c, n, hb, hc, hn, hM⟩ := mode_ok h0
  have hph : (Qst.pure G 28 [.agg (phC a b c n)] (u64 (ofp a b c n))).ok Tryz.prog := fun s hs => ph_call a b c n hb hc hn s hs
  have hlt := ofp_lt a b c n
  generalize ofp a b c n = ph at *
  have h := pre_run lV FL z0 z1 z2 a b c n ph (z1 % 4) (z2 % 4) bL.length
  unfold preL preR at h
  split at h
  case h_2 => cases h
  rename_i e1 ts1 s1 d1 q1 hr1
  split at h
  case h_2 => cases h' : runX Tryz.prog none_ 60 3 (.code cR15 ts1 s1) [] <;> rw [h'] at h <;> cases h
  rename_i ts2 s2 d2 q2 hr2
  rw [hr2] at h
  simp only [Option.some.injEq, Prod.mk.injEq] at h
  obtain ⟨ht, hm, ⟨hk, hnx⟩, hq1, hq2⟩ := h
  subst hq1 hq2
  have hs15 := runX_sound mixed none_sound hr2 trivial
  have hgo := runPs_ok mixed none_sound psA _ _ _ _ _ _ _ _ hr1 (show Qsts Tryz.prog (preQ lV FL z0 z1 z2 a b c n ph (z1 % 4) (z2 % 4) bL.length) from ⟨W.len _, q300 (decide_eq_false h3), bg_at _ ⟨true, rfl⟩ ⟨true, rfl⟩, hM, hph, qz3_ok h1 h2 (qz3_ok h1 h2 (qz3_ok h1 h2 ⟨u32_ok h2, rfl, trivial⟩))⟩)
  rw [ht] at hs15
  generalize tget ts2 = j0 at *
  have L0 := lay0 (List.map_inj_left.1 hm) hk hnx
  have X0 : LawI (z1 % 4) (z2 % 4) 100 (M0 ph) FL0 th0 [] [] s2 w0 (C0 (z2 % 4)) psi0 21 hb0 hv0 Ks0 44 2 FL := ⟨L0, inv0 hlt, fun k _ => ⟨fun e he => (by cases he), trivial⟩, fun z => (m_hdr z).symm, Nat.zero_le _, rfl, ⟨by simp [Ks0], by decide⟩, fun j hj => by
    have hj' : j = 0 ∨ j = 1 ∨ j = 2 ∨ j = 3 := by omega
    rcases hj' with rfl | rfl | rfl | rfl <;> decide, ⟨true, List.map_inj_left.1 hm (2, .cells true FL) (by simp [tab])⟩⟩
  have hmo : z2 % 4 < 4294967296 := by omega
  obtain ⟨K1, M1, FL1, th1, G1, H1, s3, C1, ψ1, hb1, hv1, Ks1, j1, hL, X1, hK1⟩ := o_loop (zb := 3) hmo W (by omega) bL.length 0 100 (M0 ph) FL0 th0 [] [] s2 (C0 (z2 % 4)) psi0 hb0 hv0 Ks0 j0 (by omega) (by omega) X0
  obtain ⟨j2, h37⟩ := run_TQ (r37_t s3 3 (w0 7) 21 44 bL.length lV (hv1 3) j1) (r37_q s3 3 (w0 7) 21 44 bL.length lV (hv1 3) j1) trivial
  obtain ⟨s4, C4, ψ4, j4, hG, X4⟩ := g_loop (zb := 3) (lV := lV) (by omega) G1.length 0 s3 C1 ψ1 j2 (Nat.zero_add _) X1
  obtain ⟨j5, h42⟩ := run_TQ (r42_t s4 3 (w0 7) 21 44 G1.length lV (hv1 3) j4) (r42_q s4 3 (w0 7) 21 44 G1.length lV (hv1 3) j4) trivial
  obtain ⟨M6, s6, C6, ψ6, j6, hZ, L6⟩ := z_loop (zb := 3) (lV := lV) 16 0 M1 s4 C4 ψ4 j5 rfl X4.L X4.sa X4.I.lt X4.sp
  obtain ⟨ts7, s7, t7, h7⟩ := resL (end_run s6 3 (w0 7) 21 44 16 lV (hv1 3) j6) ⟨lives_q s6 (par4_hasG L6.par), trivial⟩
  refine ⟨ts7, s7, t7, ?_⟩
  rw [law_eq]
  exact hgo _ _ (seq_next (seq_next hs15 (block_exit hL rfl)) (seq_next (seq_next h37 (block_exit hG rfl)) (seq_next (seq_next h42 (block_exit hZ rfl)) h7)))
end Go.Proofs.YtofbdgmknfbkfaaGreatDoor.nodesLife
