/- The bound of eras, of the program and of the document. Conditions: those that each theorem names, and no others. -/
import Derived.Test.YtipadnlhcnmgaaaDoorLook5
namespace Go.Proofs.YtipadnlhcnmgaaaDoor.boundsLook
open Go Go.Mini
def en0 : En := ⟨0, 0, false, 0, 0, 0⟩
def th0 : Th := ⟨0, 0, 0, 0, 0, 0, 0, 0, 0, 0⟩
section
variable (A H : Int) (xe xt ep : AV) (cs2 cs3 : List AV) (nt ne : Nat) (en : Nat → En) (th : Nat → Th)
  (he : RowX 28 97 2 cs2 xe ne (fun k => .agg (enC (en k)))) (ht : TRow xt nt cs3 th)
  (nxe : xe.names (fun c => Nat.blt c 5) = true) (nxt : xt.names (fun c => Nat.blt c 5) = true) (nep : ep.names (fun c => Nat.blt c 5) = true) (n2 : namess (fun _ => false) cs2 = true) (n3 : namess (fun _ => false) cs3 = true)
include he ht nxe nxt nep n2 n3
theorem ib_outer : ∀ (m i c : Nat) (j : Nat → AV), nt - i = m → i ≤ nt → c + m * ne < 4611686018427387904 → (∀ q, (j q).names (fun c => Nat.blt c 5) = true) →
    ∃ j', (∀ q, (j' q).names (fun c => Nat.blt c 5) = true) ∧ SoundL Tryd.prog [] (.loop (loopAt Tryd.prog 12 0)) (To A H xe xt ep nt c i j) [(5, .cells false [xt, ep]), (3, .cells true cs3), (2, .cells true cs2)] 3 6 (.exit 0)
      (To A H xe xt ep nt (c + cnt2 en th ne i m) nt j') [(5, .cells false [xt, ep]), (3, .cells true cs3), (2, .cells true cs2)] := by
  have ob : ∀ s1 : AS, s1.get 5 = some (.cells false [xt, ep]) → s1.get 3 = some (.cells true cs3) → s1.get 2 = some (.cells true cs2) →
      eachB (fun b o => o.names (fun c => Nat.blt c 6) = true ∧ s1.get b = some o) [(5, .cells false [xt, ep]), (3, .cells true cs3), (2, .cells true cs2)] := fun s1 g5 g3 g2 =>
    ⟨⟨agg2 (names_lt nxt (by decide)) (names_lt nep (by decide)), g5⟩, ⟨nmsN 6 n3, g3⟩, ⟨nmsN 6 n2, g2⟩, trivial⟩
  have a3 : (AV.agg [xt, ep]).names (fun c => Nat.blt c 5) = true := agg2 nxt nep
  intro m
  induction m with
  | zero =>
    intro i c j hmm hk hc hj
    have : i = nt := by omega
    subst this
    refine ⟨j, hj, SoundL.stop (SoundL.intro (runX_sound mixed none_sound (ib_oend A H xe xt ep .nilSlice cs2 cs3 i 0 c 0 i 0 0 0 0 0 0 0 0 j j en0 th0) ⟨lt_q _ _ _ (by simp), trivial⟩) ?_ (sameBut_refl _) (ob _ rfl rfl rfl)) (by simp)⟩
    unfold To
    repeat (first | exact rfl | refine ⟨_, _, rfl, ?_, ?_⟩ | exact .inl ⟨rfl, rfl⟩ | exact .inr (seeN (n := 5) rfl (by decide)) | exact .inr (seeN (n := 6) rfl (by decide)) | exact .inr (seeN nxe (by decide)) | exact .inr (seeN a3 (by decide)) | exact .inr (seeN (hj _) (by decide)))
  | succ m ih =>
    intro i c j hmm hk hc hj
    have hin : i < nt := by omega
    have hsm := ht.row.small
    have hsn := he.small
    have q0 := lt_q i nt true (by simpa using hin)
    rw [Nat.add_mul, Nat.one_mul] at hc
    have hcl := cntR_le (fun k => !(mayB (en k) (th i))) ne 0
    have e : c + cnt2 en th ne i (m + 1) = c + cntR (fun k => !(mayB (en k) (th i))) 0 ne + cnt2 en th ne (i + 1) m := by
      simp only [cnt2]; omega
    have mk : ∀ (Y Y2 : AV), Y = Y2.ren (fun b => if b = 2 then 3 else b) → Y2.names (fun c => Nat.blt c 5) = true → RowX 29 101 2 cs3 Y2 1 (fun _ => .agg (thC (th i))) → ∀ (e : En) (s : AS), s.get 3 = some (.cells true cs3) → Sound Tryd.prog (.call 45 [.agg (enC e), .agg [Y, .int .u64 (Int.ofNat 0)]] s) ⟨.ret, [.bool (mayB e (th i))], s⟩ := by
      intro Y Y2 hY hY2 hr e s hs
      obtain ⟨_, _, h⟩ := emay_call e (th i) Y2 (.int .u64 (Int.ofNat 0)) cs3 hr
      refine on_can h (fun b => if b = 2 then 3 else b) (fun x hx => ?_) rfl rfl ?_ rfl ?_ s (fun x hx => ?_)
      · simp only [List.mem_singleton] at hx
        subst hx
        exact ⟨(by decide : 2 < 5), n3⟩
      · show ((AV.agg (enC e)).names _ && ((Y2.names _ && _) && true)) = true
        rw [hY2]
        rfl
      · rw [hY]
        rfl
      · simp only [List.mem_singleton] at hx
        subst hx
        exact ⟨true, hs⟩
    have j0n : ∀ (Y : AV), Y.names (fun c => Nat.blt c 5) = true → ∀ q, ((fun q => if q = 29 then AV.agg [Y, .int .u64 (Int.ofNat 0)] else j q) q).names (fun c => Nat.blt c 5) = true := fun Y hY q => by
      show (if q = 29 then AV.agg [Y, .int .u64 (Int.ofNat 0)] else j q).names _ = true
      split
      · exact agg2 hY rfl
      · exact hj q
    rcases ht.cut i hin with ⟨oy, cy, hs, hr⟩ | ⟨oy, hs, hr⟩
    · obtain ⟨j1, hj1, inner⟩ := ib_inner A H xe xt ep cs2 cs3 nt ne en he nxe nxt nep n2 n3 (.slice 3 oy 1 cy) rfl (th i) i (mk _ _ rfl rfl hr) ne 0 c _ (by omega) (by omega) (by omega) (j0n (.slice 3 oy 1 cy) rfl)
      obtain ⟨j', hj', ih⟩ := ih (i + 1) (c + cntR (fun k => !(mayB (en k) (th i))) 0 ne) j1 (by omega) (by omega) (by omega) hj1
      refine ⟨j', hj', ?_⟩
      rw [e]
      refine SoundL.next (SoundL.intro (runX_sound mixed none_sound (ib_outs A H xe xt ep .nilSlice cs2 cs3 nt ne c (c + cntR (fun k => !(mayB (en k) (th i))) 0 ne) i 0 0 0 oy cy 0 0 0 j j1 en0 th0) ⟨q0, inc_q i (by omega), hs, he.len _, Sound.enter (inner none none [6]) ?_, inc_q i (by omega), trivial⟩) ?_ (sameBut_refl _) (ob _ rfl rfl rfl)) ih
      · unfold Ti2
        repeat (first | exact rfl | refine ⟨_, _, rfl, ?_, ?_⟩ | exact .inr ⟨rfl, rfl⟩ | exact .inl ⟨rfl, rfl⟩ | exact .inl ⟨he.na.1.symm, he.na.2⟩ | exact .inl ⟨ht.row.na.1.symm, ht.row.na.2⟩ | exact see_same _)
      · unfold To
        repeat (first | exact rfl | refine ⟨_, _, rfl, ?_, ?_⟩ | exact .inl ⟨rfl, rfl⟩ | exact .inl ⟨he.na.1.symm, he.na.2⟩ | exact .inl ⟨ht.row.na.1.symm, ht.row.na.2⟩ | exact .inr (seeN (n := 5) rfl (by decide)) | exact .inr (seeN (n := 6) rfl (by decide)) | exact .inr (seeN nxe (by decide)) | exact .inr (seeN a3 (by decide)) | exact .inr (seeN (hj1 _) (by decide)))
    · obtain ⟨j1, hj1, inner⟩ := ib_inner A H xe xt ep cs2 cs3 nt ne en he nxe nxt nep n2 n3 (.osl 3 oy 1 10) rfl (th i) i (mk _ _ rfl rfl hr) ne 0 c _ (by omega) (by omega) (by omega) (j0n (.osl 3 oy 1 10) rfl)
      obtain ⟨j', hj', ih⟩ := ih (i + 1) (c + cntR (fun k => !(mayB (en k) (th i))) 0 ne) j1 (by omega) (by omega) (by omega) hj1
      refine ⟨j', hj', ?_⟩
      rw [e]
      refine SoundL.next (SoundL.intro (runX_sound mixed none_sound (ib_outl A H xe xt ep .nilSlice cs2 cs3 nt ne c (c + cntR (fun k => !(mayB (en k) (th i))) 0 ne) i 0 0 0 oy 0 0 0 0 j j1 en0 th0) ⟨q0, inc_q i (by omega), hs, he.len _, Sound.enter (inner none none [6]) ?_, inc_q i (by omega), trivial⟩) ?_ (sameBut_refl _) (ob _ rfl rfl rfl)) ih
      · unfold Ti2
        repeat (first | exact rfl | refine ⟨_, _, rfl, ?_, ?_⟩ | exact .inr ⟨rfl, rfl⟩ | exact .inl ⟨rfl, rfl⟩ | exact .inl ⟨he.na.1.symm, he.na.2⟩ | exact .inl ⟨ht.row.na.1.symm, ht.row.na.2⟩ | exact see_same _)
      · unfold To
        repeat (first | exact rfl | refine ⟨_, _, rfl, ?_, ?_⟩ | exact .inl ⟨rfl, rfl⟩ | exact .inl ⟨he.na.1.symm, he.na.2⟩ | exact .inl ⟨ht.row.na.1.symm, ht.row.na.2⟩ | exact .inr (seeN (n := 5) rfl (by decide)) | exact .inr (seeN (n := 6) rfl (by decide)) | exact .inr (seeN nxe (by decide)) | exact .inr (seeN a3 (by decide)) | exact .inr (seeN (hj1 _) (by decide)))
theorem ib_call : ∃ e1 s1, Sound Tryd.prog (.call 12 [.int .i64 A, .int .i64 H, xe, .agg [xt, ep]] (can [(3, cs3), (2, cs2)])) ⟨e1, [.int .i64 (Int.ofNat (tmF (cl A) (cl H) + cnt2 en th ne 0 nt))], s1⟩ := by
  have h1 := ht.row.small
  have h2 := he.small
  have h3 := tm_le (cl_le A) (cl_le H)
  have h4 : nt * ne ≤ 1000 * 1000 := Nat.mul_le_mul (by omega) (by omega)
  obtain ⟨j', hj', h⟩ := ib_outer A H xe xt ep cs2 cs3 nt ne en th he ht nxe nxt nep n2 n3 nt 0 (tmF (cl A) (cl H)) (fun _ => undefA) (by omega) (by omega) (by omega) (fun _ => rfl)
  refine ⟨_, _, runX_sound mixed none_sound (ib_run A H xe xt ep .nilSlice cs2 cs3 nt ne 0 (tmF (cl A) (cl H) + cnt2 en th ne 0 nt) 0 0 0 0 0 0 0 0 (tmF (cl A) (cl H)) (fun _ => undefA) j' en0 th0) ⟨fun s _ => term_call A H s, ht.row.len _, Sound.enter (h none none []) ?_, trivial⟩⟩
  unfold To
  repeat (first | exact rfl | refine ⟨_, _, rfl, ?_, ?_⟩ | exact .inr ⟨rfl, rfl⟩ | exact .inl ⟨rfl, rfl⟩ | exact .inl ⟨he.na.1.symm, he.na.2⟩ | exact .inl ⟨ht.row.na.1.symm, ht.row.na.2⟩ | exact see_same _)
end
theorem t29 : Tryd.prog.underlying 29 = some (.slice 101) := by kernel_rfl
theorem z101 : sizeA Tryd.prog 101 = some 10 := by kernel_rfl
theorem g101 : isAggA Tryd.prog 101 = some true := by kernel_rfl
theorem one_row (t : Th) : RowX 29 101 2 (thC t) (.slice 2 0 1 1) 1 (fun _ => .agg (thC t)) where
  len s := by simp only [lenA, t29]; rfl
  at_ k hk := by
    have : k = 0 := by omega
    subst this
    refine ⟨0 + 0 * 10, idx_slice (P := Tryd.prog) (b := 2) (o := 0) (cap := 1) (kk := .i64) t29 z101 (by decide), fun s ro hs => ?_⟩
    simp only [loadA, g101, z101, readA, hs]
    rfl
  small := by decide
  na := ⟨rfl, rfl⟩
section
variable (A H : Int) (xe xt ep : AV) (cs2 cs3 : List AV) (nt ne : Nat) (en : Nat → En) (th : Nat → Th)
  (he : RowX 28 97 2 cs2 xe ne (fun k => .agg (enC (en k)))) (ht : RowX 29 101 3 cs3 xt nt (fun i => .agg (thC (th i))))
  (nxe : xe.names (fun c => Nat.blt c 5) = true) (nxt : xt.names (fun c => Nat.blt c 5) = true) (nep : ep.names (fun c => Nat.blt c 5) = true) (n2 : namess (fun _ => false) cs2 = true) (n3 : namess (fun _ => false) cs3 = true)
include he ht nxe nxt nep n2 n3
theorem rb_inner (tt i : Nat) (hi : i < nt) : ∀ (m k c : Nat) (j : Nat → AV), ne - k = m → k ≤ ne → c + m < 4611686018427387904 → (∀ q, (j q).names (fun c => Nat.blt c 5) = true) →
    ∃ j', (∀ q, (j' q).names (fun c => Nat.blt c 5) = true) ∧ SoundL Tryd.prog [] (.loop (loopAt Tryd.prog 13 1)) (Tq A H xe xt ep tt c i (.int .i64 (Int.ofNat k)) j) [(5, .cells false [xt, ep]), (3, .cells true cs3), (2, .cells true cs2)] 3 6 (.exit 2)
      (Tq A H xe xt ep tt (c + cntR (fun k => !(mayB (en k) (th i))) k m) i (.int .i64 (Int.ofNat ne)) j') [(5, .cells false [xt, ep]), (3, .cells true cs3), (2, .cells true cs2)] := by
  have ob : ∀ s1 : AS, s1.get 5 = some (.cells false [xt, ep]) → s1.get 3 = some (.cells true cs3) → s1.get 2 = some (.cells true cs2) →
      eachB (fun b o => o.names (fun c => Nat.blt c 6) = true ∧ s1.get b = some o) [(5, .cells false [xt, ep]), (3, .cells true cs3), (2, .cells true cs2)] := fun s1 g5 g3 g2 =>
    ⟨⟨agg2 (names_lt nxt (by decide)) (names_lt nep (by decide)), g5⟩, ⟨nmsN 6 n3, g3⟩, ⟨nmsN 6 n2, g2⟩, trivial⟩
  have a3 : (AV.agg [xt, ep]).names (fun c => Nat.blt c 5) = true := agg2 nxt nep
  intro m
  induction m with
  | zero =>
    intro k c j hmm hk hc hj
    have : k = ne := by omega
    subst this
    refine ⟨j, hj, SoundL.stop (SoundL.intro (runX_sound mixed none_sound (rb_iend A H xe xt ep .nilSlice cs2 cs3 nt k c 0 i k 0 0 0 0 tt 0 0 j j en0 th0) ⟨he.len _, lt_q _ _ _ (by simp), trivial⟩) ?_ (sameBut_refl _) (ob _ rfl rfl rfl)) (by simp)⟩
    unfold Tq
    repeat (first | exact rfl | refine ⟨_, _, rfl, ?_, ?_⟩ | exact .inl ⟨rfl, rfl⟩ | exact .inl ⟨he.na.1.symm, he.na.2⟩ | exact .inr (seeN (n := 5) rfl (by decide)) | exact .inr (seeN (n := 6) rfl (by decide)) | exact .inr (seeN nxe (by decide)) | exact .inr (seeN a3 (by decide)) | exact .inr (seeN (hj _) (by decide)))
  | succ m ih =>
    intro k c j hmm hk hc hj
    have hkn : k < ne := by omega
    have hsm := he.small
    obtain ⟨o, hix, hl⟩ := he.at_ k hkn
    obtain ⟨o2, hix2, hl2⟩ := ht.at_ i hi
    have q0 := lt_q k ne true (by simpa using hkn)
    have hl := hl ⟨⟨[(5, .cells false [xt, ep]), (3, .cells true cs3), (2, .cells true cs2)], 3, none, []⟩, 6⟩ true rfl
    have hl2 := hl2 ⟨⟨[(5, .cells false [xt, ep]), (3, .cells true cs3), (2, .cells true cs2)], 3, none, []⟩, 6⟩ true rfl
    have hme : ∀ s : AS, s.get 6 = some (.cells false (thC (th i))) → Sound Tryd.prog (.call 46 [.agg (enC (en k)), .agg [.slice 6 0 1 1, .int .u64 (Int.ofNat 0)]] s) ⟨.ret, [.bool (mayB (en k) (th i))], s⟩ := by
      intro s hs
      obtain ⟨_, _, h⟩ := ermay_call (en k) (th i) (.slice 2 0 1 1) (.int .u64 (Int.ofNat 0)) (thC (th i)) (one_row (th i))
      refine on_can h (fun b => if b = 2 then 6 else b) (fun x hx => ?_) rfl rfl rfl rfl rfl s (fun x hx => ?_)
      · simp only [List.mem_singleton] at hx
        subst hx
        exact ⟨(by decide : 2 < 5), rfl⟩
      · simp only [List.mem_singleton] at hx
        subst hx
        exact ⟨false, hs⟩
    let j1 : Nat → AV := fun q => if q = 38 then .agg (enC (en k)) else if q = 43 then .agg (thC (th i)) else if q = 45 then .agg [junkA, junkA] else j q
    have hj1 : ∀ q, (j1 q).names (fun c => Nat.blt c 5) = true := fun q => by
      show (if q = 38 then AV.agg (enC (en k)) else if q = 43 then AV.agg (thC (th i)) else if q = 45 then .agg [junkA, junkA] else j q).names _ = true
      split
      · rfl
      · split
        · rfl
        · split
          · rfl
          · exact hj q
    cases hp : mayB (en k) (th i) with
    | true =>
      rw [hp] at hme
      obtain ⟨j', hj', ih⟩ := ih (k + 1) c j1 (by omega) (by omega) (by omega) hj1
      refine ⟨j', hj', ?_⟩
      have e : c + cntR (fun k => !(mayB (en k) (th i))) k (m + 1) = c + cntR (fun k => !(mayB (en k) (th i))) (k + 1) m := by
        simp only [cntR, hp, Bool.not_true, Bool.false_eq_true, if_false]; omega
      rw [e]
      refine SoundL.next (SoundL.intro (runX_sound mixed none_sound (rb_intrue A H xe xt ep .nilSlice cs2 cs3 nt ne c 0 i k o o2 0 0 tt 0 0 j j (en k) (th i)) ⟨he.len _, q0, hix, hl, hix2, hl2, hme _ rfl, inc_q k (by omega), trivial⟩) ?_ (sameBut_refl _) (ob _ rfl rfl rfl)) ih
      unfold Tq
      repeat (first | exact rfl | refine ⟨_, _, rfl, ?_, ?_⟩ | exact .inl ⟨rfl, rfl⟩ | exact .inl ⟨he.na.1.symm, he.na.2⟩ | exact .inl ⟨ht.na.1.symm, ht.na.2⟩ | exact .inr (seeN (n := 5) rfl (by decide)) | exact .inr (seeN (n := 6) rfl (by decide)) | exact .inr (seeN nxe (by decide)) | exact .inr (seeN a3 (by decide)) | exact .inr (seeN (hj1 _) (by decide)))
    | false =>
      rw [hp] at hme
      obtain ⟨j', hj', ih⟩ := ih (k + 1) (c + 1) j1 (by omega) (by omega) (by omega) hj1
      refine ⟨j', hj', ?_⟩
      have e : c + cntR (fun k => !(mayB (en k) (th i))) k (m + 1) = c + 1 + cntR (fun k => !(mayB (en k) (th i))) (k + 1) m := by
        simp only [cntR, hp, Bool.not_false, if_true]; omega
      rw [e]
      refine SoundL.next (SoundL.intro (runX_sound mixed none_sound (rb_infalse A H xe xt ep .nilSlice cs2 cs3 nt ne c 0 i k o o2 0 0 tt 0 0 j j (en k) (th i)) ⟨he.len _, q0, hix, hl, hix2, hl2, hme _ rfl, inc_q c (by omega), inc_q k (by omega), trivial⟩) ?_ (sameBut_refl _) (ob _ rfl rfl rfl)) ih
      unfold Tq
      repeat (first | exact rfl | refine ⟨_, _, rfl, ?_, ?_⟩ | exact .inl ⟨rfl, rfl⟩ | exact .inl ⟨he.na.1.symm, he.na.2⟩ | exact .inl ⟨ht.na.1.symm, ht.na.2⟩ | exact .inr (seeN (n := 5) rfl (by decide)) | exact .inr (seeN (n := 6) rfl (by decide)) | exact .inr (seeN nxe (by decide)) | exact .inr (seeN a3 (by decide)) | exact .inr (seeN (hj1 _) (by decide)))
theorem rb_outer (tt : Nat) : ∀ (m i c : Nat) (y : AV) (j : Nat → AV), nt - i = m → i ≤ nt → c + m * ne < 4611686018427387904 → y.names (fun c => Nat.blt c 5) = true → (∀ q, (j q).names (fun c => Nat.blt c 5) = true) →
    ∃ y' j', (∀ q, (j' q).names (fun c => Nat.blt c 5) = true) ∧ SoundL Tryd.prog [] (.loop (loopAt Tryd.prog 13 0)) (Tq A H xe xt ep tt c i y j) [(5, .cells false [xt, ep]), (3, .cells true cs3), (2, .cells true cs2)] 3 6 (.exit 0)
      (Tq A H xe xt ep tt (c + cnt2 en th ne i m) nt y' j') [(5, .cells false [xt, ep]), (3, .cells true cs3), (2, .cells true cs2)] := by
  have ob : ∀ s1 : AS, s1.get 5 = some (.cells false [xt, ep]) → s1.get 3 = some (.cells true cs3) → s1.get 2 = some (.cells true cs2) →
      eachB (fun b o => o.names (fun c => Nat.blt c 6) = true ∧ s1.get b = some o) [(5, .cells false [xt, ep]), (3, .cells true cs3), (2, .cells true cs2)] := fun s1 g5 g3 g2 =>
    ⟨⟨agg2 (names_lt nxt (by decide)) (names_lt nep (by decide)), g5⟩, ⟨nmsN 6 n3, g3⟩, ⟨nmsN 6 n2, g2⟩, trivial⟩
  have a3 : (AV.agg [xt, ep]).names (fun c => Nat.blt c 5) = true := agg2 nxt nep
  intro m
  induction m with
  | zero =>
    intro i c y j hmm hk hc hy hj
    have : i = nt := by omega
    subst this
    refine ⟨y, j, hj, SoundL.stop (SoundL.intro (runX_sound mixed none_sound (rb_oend A H xe xt ep y cs2 cs3 i 0 c 0 i 0 0 0 0 0 tt 0 0 j j en0 th0) ⟨ht.len _, lt_q _ _ _ (by simp), trivial⟩) ?_ (sameBut_refl _) (ob _ rfl rfl rfl)) (by simp)⟩
    unfold Tq
    repeat (first | exact rfl | refine ⟨_, _, rfl, ?_, ?_⟩ | exact .inl ⟨rfl, rfl⟩ | exact .inl ⟨ht.na.1.symm, ht.na.2⟩ | exact .inr (seeN (n := 5) rfl (by decide)) | exact .inr (seeN (n := 6) rfl (by decide)) | exact .inr (seeN nxe (by decide)) | exact .inr (seeN hy (by decide)) | exact .inr (seeN a3 (by decide)) | exact .inr (seeN (hj _) (by decide)))
  | succ m ih =>
    intro i c y j hmm hk hc hy hj
    have hin : i < nt := by omega
    have hsm := ht.small
    have hsn := he.small
    have q0 := lt_q i nt true (by simpa using hin)
    rw [Nat.add_mul, Nat.one_mul] at hc
    have hcl := cntR_le (fun k => !(mayB (en k) (th i))) ne 0
    have e : c + cnt2 en th ne i (m + 1) = c + cntR (fun k => !(mayB (en k) (th i))) 0 ne + cnt2 en th ne (i + 1) m := by
      simp only [cnt2]; omega
    obtain ⟨j1, hj1, inner⟩ := rb_inner A H xe xt ep cs2 cs3 nt ne en th he ht nxe nxt nep n2 n3 tt i hin ne 0 c j (by omega) (by omega) (by omega) hj
    obtain ⟨y', j', hj', ih⟩ := ih (i + 1) (c + cntR (fun k => !(mayB (en k) (th i))) 0 ne) (.int .i64 (Int.ofNat ne)) j1 (by omega) (by omega) (by omega) rfl hj1
    refine ⟨y', j', hj', ?_⟩
    rw [e]
    refine SoundL.next (SoundL.intro (runX_sound mixed none_sound (rb_out A H xe xt ep y cs2 cs3 nt ne c (c + cntR (fun k => !(mayB (en k) (th i))) 0 ne) i 0 0 0 0 0 tt 0 0 j j1 en0 th0) ⟨ht.len _, q0, Sound.enter (inner none none []) ?_, inc_q i (by omega), trivial⟩) ?_ (sameBut_refl _) (ob _ rfl rfl rfl)) ih
    · unfold Tq
      repeat (first | exact rfl | refine ⟨_, _, rfl, ?_, ?_⟩ | exact .inr ⟨rfl, rfl⟩ | exact .inl ⟨rfl, rfl⟩ | exact .inl ⟨he.na.1.symm, he.na.2⟩ | exact .inl ⟨ht.na.1.symm, ht.na.2⟩ | exact see_same _)
    · unfold Tq
      repeat (first | exact rfl | refine ⟨_, _, rfl, ?_, ?_⟩ | exact .inl ⟨rfl, rfl⟩ | exact .inl ⟨he.na.1.symm, he.na.2⟩ | exact .inl ⟨ht.na.1.symm, ht.na.2⟩ | exact .inr (seeN (n := 5) rfl (by decide)) | exact .inr (seeN (n := 6) rfl (by decide)) | exact .inr (seeN nxe (by decide)) | exact .inr (seeN a3 (by decide)) | exact .inr (seeN (hj1 _) (by decide)))
theorem rb_call : ∃ e1 s1, Sound Tryd.prog (.call 13 [.int .i64 A, .int .i64 H, xe, .agg [xt, ep]] (can [(3, cs3), (2, cs2)])) ⟨e1, [.int .i64 (Int.ofNat (tmF (cl A) (cl H) + cnt2 en th ne 0 nt))], s1⟩ := by
  have h1 := ht.small
  have h2 := he.small
  have c1 := cl_le A
  have c2 := cl_le H
  have h3 := tm_le c1 c2
  have h4 : nt * ne ≤ 1000 * 1000 := Nat.mul_le_mul (by omega) (by omega)
  obtain ⟨y', j', hj', h⟩ := rb_outer A H xe xt ep cs2 cs3 nt ne en th he ht nxe nxt nep n2 n3 (cl A) nt 0 (tmF (cl A) (cl H)) undefA (fun _ => undefA) (by omega) (by omega) (by omega) rfl (fun _ => rfl)
  refine ⟨_, _, runX_sound mixed none_sound (rb_run A H xe xt ep y' cs2 cs3 nt ne 0 (tmF (cl A) (cl H) + cnt2 en th ne 0 nt) 0 0 0 0 0 0 (cl A) (cl H) (tmF (cl A) (cl H)) (fun _ => undefA) j' en0 th0) ⟨fun s _ => rcnt_call A s, fun s _ => rcnt_call H s, wrapq _ ?_ (by omega), wrapq _ ?_ (by omega), wrapq _ ?_ (by omega), Sound.enter (h none none []) ?_, trivial⟩⟩
  · first | rfl | (simp only [Int.ofNat_eq_natCast, Int.natCast_mul])
  · first | rfl | (simp only [Int.ofNat_eq_natCast]; omega)
  · unfold tmF
    simp only [Int.ofNat_eq_natCast, Int.natCast_mul]
  · unfold Tq
    repeat (first | exact rfl | refine ⟨_, _, rfl, ?_, ?_⟩ | exact .inr ⟨rfl, rfl⟩ | exact .inl ⟨rfl, rfl⟩ | exact .inl ⟨he.na.1.symm, he.na.2⟩ | exact .inl ⟨ht.na.1.symm, ht.na.2⟩ | exact see_same _)
end
end Go.Proofs.YtipadnlhcnmgaaaDoor.boundsLook
