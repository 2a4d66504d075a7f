/- The law GhostsStep answers true, for any row of ghosts. Conditions: those that each theorem names, and no others. -/
import Derived.Test.YtipadnlhcnmgaaaDoorStep19
namespace Go.Proofs.YtipadnlhcnmgaaaDoor.ghostsStep
open Go Go.Mini
theorem rstep_gen (x : AV) (cs : List AV) (_ : x.names (fun c => Nat.blt c 3) = true) (a : Ac) (m : Nat) (hb sb : Bool)
    (hw : a.wa < 18446744073709551616) (hm : m < 4294967296)
    (hold : ∀ (s : AS) (ro : Bool), s.get 2 = some (.cells ro cs) → Sound Tryd.prog (.call 34 [x, .agg [.int .i64 a.pl, .int .u32 (Int.ofNat (hg a.wa)), .bool false]] s) ⟨.ret, [.bool hb], s⟩)
    (seg : ∀ (s : AS) (ro : Bool), s.get 2 = some (.cells ro cs) → Sound Tryd.prog (.call 35 [x, .int .i64 a.pl] s) ⟨.ret, [.bool sb], s⟩) :
    ∃ e1 s1, Sound Tryd.prog (.call 31 [.agg (acC a), x, .int .u32 (Int.ofNat m)] ⟨⟨[(2, .cells true cs)], 1, none, []⟩, 3⟩) ⟨e1, [.int .i64 (Int.ofNat (stF a m hb sb))], s1⟩ := by
  have oq := fun (s : AS) (_ : hasG s [] = true) => rof_call a.wa a.nw m hw hm s
  have aq := fun (s : AS) (_ : hasG s [] = true) => rhead a.wa hw s
  unfold stF
  revert oq
  generalize ofF a.wa a.nw m = c
  intro oq
  by_cases ne : a.wa = a.nw
  · rw [if_neg (by unfold hdrB; simp [ne]), if_neg (fun h => h.2.2.1 ne)]
    exact ⟨_, _, runX_sound mixed none_sound (rs_same a x cs m c 0 0) ⟨by simp [Qst.ok, ne], trivial⟩⟩
  have qn : (Qst.val (some (AV.bool (Int.ofNat a.wa == Int.ofNat a.nw))) (AV.bool false)).ok Tryd.prog := by simp [Qst.ok]; omega
  by_cases hk : a.ak = 9
  · have q9 : (Qst.val (some (AV.bool (a.ak == Int.ofNat 9))) (AV.bool true)).ok Tryd.prog := by rw [hk]; simp [Qst.ok]
    have no6 : (Qst.val (some (AV.bool (a.ak == Int.ofNat 6))) (AV.bool false)).ok Tryd.prog := by rw [hk]; simp [Qst.ok]
    by_cases hf : a.fd = 0
    · have qf : (Qst.val (some (AV.bool (a.fd == Int.ofNat 0))) (AV.bool true)).ok Tryd.prog := by rw [hf]; simp [Qst.ok]
      rw [if_pos (by unfold hdrB; simp [hk, hf, ne])]
      by_cases c0 : c = 0
      · rw [if_pos c0]
        exact ⟨_, _, runX_sound mixed none_sound (rs_A a x cs m c 0 0) ⟨qn, q9, qf, oq, by simp [Qst.ok, c0], trivial⟩⟩
      rw [if_neg c0]
      have q0 : (Qst.val (some (AV.bool (Int.ofNat c == Int.ofNat 0))) (AV.bool false)).ok Tryd.prog := by simp [Qst.ok]; omega
      by_cases c3 : 3 ≤ c
      case neg =>
        rw [if_neg (fun h => by rcases h.1 with h | h | h <;> omega)]
        exact ⟨_, _, runX_sound mixed none_sound (rs_B1 a x cs m c (hs a.wa) (hg a.wa)) ⟨qn, q9, qf, oq, q0, aq, by simp [Qst.ok]; omega, no6, trivial⟩⟩
      have q3 : (Qst.val (some (AV.bool (decide (Int.ofNat c ≥ Int.ofNat 3)))) (AV.bool true)).ok Tryd.prog := by simp [Qst.ok]; omega
      by_cases c5 : c ≤ 5
      case neg =>
        rw [if_neg (fun h => by rcases h.1 with h | h | h <;> omega)]
        exact ⟨_, _, runX_sound mixed none_sound (rs_B2 a x cs m c (hs a.wa) (hg a.wa)) ⟨qn, q9, qf, oq, q0, aq, q3, by simp [Qst.ok]; omega, no6, trivial⟩⟩
      have q5 : (Qst.val (some (AV.bool (decide (Int.ofNat c ≤ Int.ofNat 5)))) (AV.bool true)).ok Tryd.prog := by simp [Qst.ok]; omega
      cases hb with
      | true =>
        rw [if_pos ⟨by omega, rfl⟩]
        exact ⟨_, _, runX_sound mixed none_sound (rs_B4 a x cs m c (hs a.wa) (hg a.wa)) ⟨qn, q9, qf, oq, q0, aq, q3, q5, hold _ true rfl, trivial⟩⟩
      | false =>
        rw [if_neg (by simp)]
        exact ⟨_, _, runX_sound mixed none_sound (rs_B3 a x cs m c (hs a.wa) (hg a.wa)) ⟨qn, q9, qf, oq, q0, aq, q3, q5, hold _ true rfl, no6, trivial⟩⟩
    · rw [if_neg (by unfold hdrB; simp [hf]), if_neg (fun h => hf h.2.1)]
      exact ⟨_, _, runX_sound mixed none_sound (rs_C0y a x cs m c 0 0) ⟨qn, q9, by simp [Qst.ok]; omega, no6, trivial⟩⟩
  have q9 : (Qst.val (some (AV.bool (a.ak == Int.ofNat 9))) (AV.bool false)).ok Tryd.prog := by simp [Qst.ok]; omega
  rw [if_neg (by unfold hdrB; simp [hk])]
  by_cases k6 : a.ak = 6
  case neg =>
    rw [if_neg (fun h => k6 h.1)]
    exact ⟨_, _, runX_sound mixed none_sound (rs_C0x a x cs m c 0 0) ⟨qn, q9, by simp [Qst.ok]; omega, trivial⟩⟩
  have q6 : (Qst.val (some (AV.bool (a.ak == Int.ofNat 6))) (AV.bool true)).ok Tryd.prog := by rw [k6]; simp [Qst.ok]
  by_cases hf : a.fd = 0
  case neg =>
    rw [if_neg (fun h => hf h.2.1)]
    exact ⟨_, _, runX_sound mixed none_sound (rs_C1x a x cs m c 0 0) ⟨qn, q9, q6, by simp [Qst.ok]; omega, trivial⟩⟩
  have qf : (Qst.val (some (AV.bool (a.fd == Int.ofNat 0))) (AV.bool true)).ok Tryd.prog := by rw [hf]; simp [Qst.ok]
  by_cases n0 : a.nw = 0
  case neg =>
    rw [if_neg (fun h => n0 h.2.2.2.1)]
    exact ⟨_, _, runX_sound mixed none_sound (rs_C2x a x cs m c 0 0) ⟨qn, q9, q6, qf, by simp [Qst.ok]; omega, trivial⟩⟩
  have q0 : (Qst.val (some (AV.bool (Int.ofNat a.nw == Int.ofNat 0))) (AV.bool true)).ok Tryd.prog := by rw [n0]; simp [Qst.ok]
  cases sb with
  | true =>
    rw [if_pos ⟨k6, hf, ne, n0, rfl⟩]
    exact ⟨_, _, runX_sound mixed none_sound (rs_C3xtrue a x cs m c 0 0) ⟨qn, q9, q6, qf, q0, seg _ true rfl, trivial⟩⟩
  | false =>
    rw [if_neg (fun h => by simp at h)]
    exact ⟨_, _, runX_sound mixed none_sound (rs_C3xfalse a x cs m c 0 0) ⟨qn, q9, q6, qf, q0, seg _ true rfl, trivial⟩⟩
theorem on_blk {f : FuncId} {args args' : List AV} {cs : List AV} {v : AV} {e : AExit} {s1 : AS} (m : Nat) (h : Sound Tryd.prog (.call f args ⟨⟨[(2, .cells true cs)], 1, none, []⟩, 3⟩) ⟨e, [v], s1⟩) (hcs : namess (fun _ => false) cs = true)
    (ha : namess (fun c => Nat.blt c 3) args = true) (hv : v.names (fun _ => false) = true) (hargs : args' = rens (fun b => if b = 2 then m else b) args) (s : AS) (ro : Bool) (hs : s.get m = some (.cells ro cs)) :
    Sound Tryd.prog (.call f args' s) ⟨.ret, [v], s⟩ := by
  have := Sound.frame h (fun b => if b = 2 then m else b) s (fun g hg => ?_) (fun k hk => by
    have : k = 2 := by simpa using hk
    subst this
    exact (by decide : 2 < 3)) (fun b o hb => ?_) ha (names_sub (fun _ h => by cases h) hv) .ret
  · rw [hargs]
    have hr : v.ren (fun b => if b = 2 then m else b) = v := by
      rw [ren_congr (p := fun _ => false) (π' := fun b => b) (fun _ h => by cases h) hv, ren_id]
    rwa [hr] at this
  · have h2 : g < 2 := Nat.lt_of_lt_of_le hg (Nat.le_of_ble_eq_true (by kernel_rfl))
    exact ⟨show g < 3 by omega, by show (if g = 2 then m else g) = g; rw [if_neg (by omega)]⟩
  · simp only [AS.get, getB] at hb
    split at hb
    · rename_i hb2
      have := Nat.eq_of_beq_eq_true hb2
      subst this
      simp only [Option.some.injEq] at hb
      subst hb
      refine ⟨_, ro, rfl, namess_sub (fun _ h => by cases h) hcs, ?_⟩
      rw [rens_no hcs, if_pos rfl]
      exact hs
    · cases hb
theorem idx_osl {P : Program} {t elem : TypeId} {b o len esz k sz : Nat} {kk : IntKind} (h1 : P.underlying t = some (.slice elem)) (h2 : sizeA P elem = some sz) (hk : k < len) :
    indexAddrA P t (.osl b o len esz) (.int kk (Int.ofNat k)) = some (.ptr b (o + k * sz)) := by
  simp only [indexAddrA, h1, h2]
  rw [if_pos ⟨by simp, by simpa using hk⟩]
  simp
theorem rowD_osl (L : List Gh) (n : Nat) (hn : n ≤ L.length) (hn' : n < 1000) : RowD (.osl 2 0 n 5) n (L.take n) (fun k => eL L (0 + k)) where
  len s := by simp only [lenA, t78]; rfl
  at_ k hk := by
    have hk2 : (L.take n)[k]? = some (eL L (0 + k)) := by
      rw [List.getElem?_take_of_lt hk, Nat.zero_add]
      exact eL_at (by omega)
    refine ⟨k * 5, ?_, fun s ro hs => ⟨ld_rowCell (P := Tryd.prog) (f := ghC) (n := 5) (i := 2) (fun _ => rfl) g3 hs hk2 rfl, ld_rowCell (P := Tryd.prog) (f := ghC) (n := 5) (i := 3) (fun _ => rfl) g55 hs hk2 rfl⟩⟩
    have := idx_osl (P := Tryd.prog) (b := 2) (o := 0) (esz := 5) (kk := .i64) t78 z79 hk
    rwa [Nat.zero_add] at this
  small := hn'
  na := ⟨rfl, rfl⟩
theorem st_le (a : Ac) (m : Nat) (x y : Bool) : stF a m x y ≤ 3 := by
  unfold stF
  split
  · split
    · omega
    · split <;> omega
  · split <;> omega
theorem dr_le (g w : Nat) : drF g w ≤ 4 := by
  unfold drF
  split <;> omega
theorem n23_call (sl : Int) (gn : Nat) (mk : Bool) (s : AS) : Sound Tryd.prog (.call 23 [.nilSlice, .agg [.int .i64 sl, .int .u32 (Int.ofNat gn), .bool mk]] s) ⟨.ret, [.bool false], s⟩ :=
  Sound.pure (G := []) (runX_sound mixed none_sound (n23 sl gn mk) trivial) rfl rfl rfl rfl
theorem n34_call (sl : Int) (gn : Nat) (mk : Bool) (s : AS) : Sound Tryd.prog (.call 34 [.nilSlice, .agg [.int .i64 sl, .int .u32 (Int.ofNat gn), .bool mk]] s) ⟨.ret, [.bool false], s⟩ :=
  Sound.pure (G := []) (runX_sound mixed none_sound (n34 sl gn mk) trivial) rfl rfl rfl rfl
theorem n35_call (sg : Int) (s : AS) : Sound Tryd.prog (.call 35 [.nilSlice, .int .i64 sg] s) ⟨.ret, [.bool false], s⟩ :=
  Sound.pure (G := []) (runX_sound mixed none_sound (n35 sg) trivial) rfl rfl rfl rfl
theorem n24_call (sg : Int) (s : AS) : Sound Tryd.prog (.call 24 [.nilSlice, .int .i64 sg] s) ⟨.ret, [.bool false], s⟩ := by
  by_cases g0 : 0 ≤ sg
  case neg => exact Sound.pure (G := []) (runX_sound mixed none_sound (n24a sg) ⟨by simp [Qst.ok]; omega, trivial⟩) rfl rfl rfl rfl
  have qg : (Qst.val (some (AV.bool (decide (sg ≥ 0)))) (AV.bool true)).ok Tryd.prog := by simp [Qst.ok]; omega
  by_cases g1 : sg < 32
  · exact Sound.pure (G := []) (runX_sound mixed none_sound (n24c sg) ⟨qg, by simp [Qst.ok]; omega, trivial⟩) rfl rfl rfl rfl
  · exact Sound.pure (G := []) (runX_sound mixed none_sound (n24b sg) ⟨qg, by simp [Qst.ok]; omega, trivial⟩) rfl rfl rfl rfl
theorem n31_call (a : Ac) (m : Nat) (hw : a.wa < 18446744073709551616) (hm : m < 4294967296) (s : AS) (hG : hasG s G2 = true) : Sound Tryd.prog (.call 31 [.agg (acC a), .nilSlice, .int .u32 (Int.ofNat m)] s) ⟨.ret, [.int .i64 (Int.ofNat (stF a m false false))], s⟩ := by
  have hg : ∃ ro, s.get 0 = some (.cells ro wf) := by
    have := List.all_eq_true.1 hG (0, wf) (by simp [G2])
    split at this
    · rename_i ro cs hcs
      exact ⟨ro, by rw [hcs, AV.beqs_eq this]⟩
    · cases this
  obtain ⟨ro, h0⟩ := hg
  obtain ⟨e1, s1, h⟩ := rstep_gen .nilSlice wf rfl a m false false hw hm (fun s _ _ => n34_call _ _ _ s) (fun s _ _ => n35_call _ s)
  exact on_blk 0 h rfl rfl rfl rfl s ro h0
theorem wrap_small (k : Nat) (h : k ≤ 4) : (Qst.val (some (AV.int .i64 (IntKind.i64.wrap (Int.ofNat k)))) (AV.int .i64 (Int.ofNat k))).ok Tryd.prog := by
  simp only [Qst.ok]
  rw [i64_wrap (by simp only [Int.ofNat_eq_natCast]; omega) (by simp only [Int.ofNat_eq_natCast]; omega)]
theorem eq_self (k : Nat) : (Qst.val (some (AV.bool (Int.ofNat k == Int.ofNat k))) (AV.bool true)).ok Tryd.prog := by simp [Qst.ok]
theorem gsv_some (L : List Gh) (hL : ∀ k, (eL L k).sl < 9223372036854775808) (n c : Nat) (hn : n + 1 ≤ L.length) (hn' : n + 1 < 1000) (hn3 : n + 1 ≤ 30) (a : Ac) (z : Zz) (hw : a.wa < 18446744073709551616) (hv : a.nw < 18446744073709551616) (hm : z.mo < 4294967296) (hd : z.hd < 18446744073709551616) :
    ∃ e s1, Sound Tryd.prog (.call 7 [.agg (acC a), .slice 2 0 (n + 1) c, .agg (zC z)] (SL2 L)) ⟨e, [.bool true], s1⟩ := by
  obtain ⟨l, p1, p2, p3, e1, e2, e3, hl⟩ := gv_loop L a z (n + 1) c hn hn' (n + 1) 0 undefA undefA undefA (by omega) (by omega) rfl rfl rfl
  have hl := hl []
  have hd1 := grow_done (m := n + 5) (n := 5) (R := rowsOf ghC (L.take (n + 1))) (ts2 := Tv a z (.slice 2 0 (n + 1) c) 3 4 (n + 1) (.osl 5 0 (n + 1) 5) p1 p2 p3) hl (by
      show getB ((n + 5, _) :: deads L a z n) (n + 5) = _
      rw [getB_cons, if_pos rfl]) (by omega) (by omega) (gh_names _) (by
      have gl : ∀ b, b < 5 → getB (Hv L a z (n + 1)) b = getB (Bv L a z) b := fun b hb => by
        show getB ((n + 5, _) :: deads L a z n) b = _
        rw [getB_cons, if_neg (by omega), getB_deads L a z b hb]
      refine ⟨⟨(by decide : 4 < 5), rfl, (gl 4 (by decide)).trans rfl, rfl⟩, ⟨(by decide : 3 < 5), rfl, (gl 3 (by decide)).trans rfl, rfl⟩, ⟨(by decide : 2 < 5), rfl, (gl 2 (by decide)).trans rfl, gh_names L⟩, ⟨(by decide : 0 < 5), rfl, (gl 0 (by decide)).trans rfl, rfl⟩, ⟨(by decide : 1 < 5), rfl, (gl 1 (by decide)).trans rfl, rfl⟩, trivial⟩) (by
      unfold Tv
      repeat (first | exact rfl | refine ⟨_, _, rfl, ?_, ?_⟩ | exact .inl ⟨rfl, rfl⟩ | exact .inr (row_see 5) | exact .inr (sees_lo (names_none e1) (by omega)) | exact .inr (sees_lo (names_none e2) (by omega)) | exact .inr (sees_lo (names_none e3) (by omega)) | exact .inr (sees_lo rfl (by omega)))) none
  let st := stF a z.mo (anyK (fun i => holdP a.pl (hg a.wa) (eL L (0 + i))) (n + 1)) (decide (0 ≤ a.pl ∧ a.pl < 32) && anyK (fun i => segP a.pl (eL L (0 + i))) (n + 1))
  have hst : st ≤ 3 := st_le _ _ _ _
  have row := rowD_osl L (n + 1) hn hn'
  have h34 := fun (sl : Int) (gn : Nat) (mk : Bool) => rhold_call _ _ _ _ row sl gn mk
  have h35 := fun (sg : Int) => rseg_call _ _ _ _ row sg
  have h31 := rstep_gen (.osl 2 0 (n + 1) 5) (rowsOf ghC (L.take (n + 1))) rfl a z.mo _ _ hw hm (fun s ro hs => on_rows (h34 a.pl (hg a.wa) false) rfl s ro hs) (fun s ro hs => on_rows (h35 a.pl) rfl s ro hs)
  obtain ⟨_, _, h31⟩ := h31
  obtain ⟨_, _, h34z⟩ := h34 z.sl z.gn z.mr
  obtain ⟨_, _, h35z⟩ := h35 z.sg
  let S : AS := ⟨⟨[(5, .cells false (rowsOf ghC (L.take (n + 1)))), (4, .cells false (zC z)), (3, .cells false (acC a)), (2, .cells true (rowsOf ghC L)), (0, .cells true wf), (1, .cells true lf)], 6, none, []⟩, 6⟩
  refine ⟨_, _, runX_sound mixed none_sound (gw_some a z (rowsOf ghC L) (rowsOf ghC (L.take (n + 1))) (n + 1) c st (drF z.gn z.hd) (anyK (fun i => holdP z.sl z.gn (eL L (0 + i))) (n + 1)) (decide (0 ≤ z.sg ∧ z.sg < 32) && anyK (fun i => segP z.sg (eL L (0 + i))) (n + 1)) p1 p2 p3)
    ⟨by simp [Qst.ok]; omega, Sound.enter hd1 ?_, ?_, wrap_small st (by omega), ?_, eq_self st, ?_, wrap_small _ (dr_le _ _), ?_, eq_self _, ?_, ?_, by simp [Qst.ok], ?_, ?_, by simp [Qst.ok], lives31_call, trivial⟩⟩
  · unfold Tv
    repeat (first | exact rfl | refine ⟨_, _, rfl, ?_, ?_⟩ | exact .inr ⟨rfl, rfl⟩ | exact .inl ⟨rfl, rfl⟩)
  · exact step_on L hL 0 (n + 1) c (by omega) hn' a z.mo hw hv hm S true rfl (by kernel_rfl)
  · exact on_blk 5 h31 (gh_names _) rfl rfl rfl S false rfl
  · exact pder_call z.sl z.gn z.hd z.mr hd S (by kernel_rfl)
  · exact rder_call z.sl z.gn z.hd z.mr hd S
  · exact hold_on L (n + 1) c hn hn' z.sl z.gn z.mr S true rfl
  · exact on_blk 5 h34z (gh_names _) rfl rfl rfl S false rfl
  · exact seg_on L hL (n + 1) c hn hn' z.sg S true rfl
  · exact on_blk 5 h35z (gh_names _) rfl rfl rfl S false rfl
theorem gsv_zero (L : List Gh) (hL : ∀ k, (eL L k).sl < 9223372036854775808) (c : Nat) (a : Ac) (z : Zz) (hw : a.wa < 18446744073709551616) (hv : a.nw < 18446744073709551616) (hm : z.mo < 4294967296) (hd : z.hd < 18446744073709551616) :
    ∃ e s1, Sound Tryd.prog (.call 7 [.agg (acC a), .slice 2 0 0 c, .agg (zC z)] (SL2 L)) ⟨e, [.bool true], s1⟩ := by
  obtain ⟨l, p1, p2, p3, e1, e2, e3, hl⟩ := gv_loop L a z 0 c (by omega) (by omega) 0 0 undefA undefA undefA (by omega) (by omega) rfl rfl rfl
  have hl0 := SoundL.stop (L0 := []) (SoundL.plain (runX_sound mixed none_sound (gv_end a z (.slice 2 0 0 c) 0 0 5 3 4 5 .nilSlice undefA undefA undefA (Bv L a z)) ⟨by simp [Qst.ok, lenA], by simp [Qst.ok], trivial⟩) (ts' := Tv a z (.slice 2 0 0 c) 3 4 0 .nilSlice (.bool false) undefA undefA) (by
    unfold Tv
    repeat (first | exact rfl | refine ⟨_, _, rfl, ?_, ?_⟩ | exact .inl ⟨rfl, rfl⟩ | exact see_same _))) (by simp) none none []
  have hst : stF a z.mo false false ≤ 3 := st_le _ _ _ _
  let S : AS := ⟨⟨[(4, .cells false (zC z)), (3, .cells false (acC a)), (2, .cells true (rowsOf ghC L)), (0, .cells true wf), (1, .cells true lf)], 5, none, []⟩, 5⟩
  have h22 := step_on L hL 0 0 c (by omega) (by omega) a z.mo hw hv hm S true rfl (by kernel_rfl)
  have h23 := hold_on L 0 c (by omega) (by omega) z.sl z.gn z.mr S true rfl
  have h24 := seg_on L hL 0 c (by omega) (by omega) z.sg S true rfl
  have a0 : ∀ p, anyK p 0 = false := fun _ => rfl
  simp only [a0, Bool.and_false] at h22 h23 h24
  refine ⟨_, _, runX_sound mixed none_sound (gw_zero a z (rowsOf ghC L) [] 0 c (stF a z.mo false false) (drF z.gn z.hd) false false (.bool false) undefA undefA)
    ⟨by simp [Qst.ok], Sound.enter hl0 ?_, h22, wrap_small _ (by omega), ?_, eq_self _, ?_, wrap_small _ (dr_le _ _), ?_, eq_self _, h23, n34_call _ _ _ _, by simp [Qst.ok], h24, n35_call _ _, by simp [Qst.ok], lives31_call, trivial⟩⟩
  · unfold Tv
    repeat (first | exact rfl | refine ⟨_, _, rfl, ?_, ?_⟩ | exact .inr ⟨rfl, rfl⟩ | exact .inl ⟨rfl, rfl⟩)
  · exact n31_call a z.mo hw hm S (by kernel_rfl)
  · exact pder_call z.sl z.gn z.hd z.mr hd S (by kernel_rfl)
  · exact rder_call z.sl z.gn z.hd z.mr hd S
theorem gsv_nil (a : Ac) (z : Zz) (hw : a.wa < 18446744073709551616) (hv : a.nw < 18446744073709551616) (hm : z.mo < 4294967296) (hd : z.hd < 18446744073709551616) :
    ∃ e s1, Sound Tryd.prog (.call 7 [.agg (acC a), .nilSlice, .agg (zC z)] (startS Tryd.prog G2)) ⟨e, [.bool true], s1⟩ := by
  have hst : stF a z.mo false false ≤ 3 := st_le _ _ _ _
  refine ⟨_, _, runX_sound mixed none_sound (gw_nil a z [] [] 0 0 (stF a z.mo false false) (drF z.gn z.hd) false false undefA undefA undefA)
    ⟨nil_call a z.mo hw hv hm _ ?_, wrap_small _ (by omega), n31_call a z.mo hw hm _ ?_, eq_self _, pder_call z.sl z.gn z.hd z.mr hd _ ?_, wrap_small _ (dr_le _ _), rder_call z.sl z.gn z.hd z.mr hd _, eq_self _, n23_call _ _ _ _, n34_call _ _ _ _, by simp [Qst.ok], n24_call _ _, n35_call _ _, by simp [Qst.ok], lives31_call, trivial⟩⟩
  all_goals kernel_rfl
theorem gsv_law (L : List Gh) (hL : ∀ k, (eL L k).sl < 9223372036854775808) (n c : Nat) (hn : n ≤ L.length) (a : Ac) (z : Zz) (hw : a.wa < 18446744073709551616) (hv : a.nw < 18446744073709551616) (hm : z.mo < 4294967296) (hd : z.hd < 18446744073709551616) :
    ∃ e s1, Sound Tryd.prog (.call 7 [.agg (acC a), .slice 2 0 n c, .agg (zC z)] (SL2 L)) ⟨e, [.bool true], s1⟩ := by
  by_cases hb : 30 < n
  · exact ⟨_, _, runX_sound mixed none_sound (gw_big a z (rowsOf ghC L) [] n c 0 0 false false undefA undefA undefA) ⟨by simp [Qst.ok]; omega, lives31_call, trivial⟩⟩
  cases n with
  | zero => exact gsv_zero L hL c a z hw hv hm hd
  | succ n => exact gsv_some L hL n c hn (by omega) (by omega) a z hw hv hm hd
end Go.Proofs.YtipadnlhcnmgaaaDoor.ghostsStep
