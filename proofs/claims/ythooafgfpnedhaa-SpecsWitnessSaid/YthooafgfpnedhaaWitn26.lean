/- made makes what is said. Conditions: those that each theorem names, and no others. -/
import Derived.Test.YthooafgfpnedhaaWitn25
namespace Go.Proofs.Ythooafgfpnedhaa.specsWitness
open Go Go.Mini
theorem MC.ren {i : Nat} {L : List Call9} {cv : AV} {oC : AObj} (h : MC i L cv oC) (π : Nat → Nat) : cv.ren π = if i = 0 then .nilSlice else .osl (π 5) 0 i 9 := by
  rcases h with ⟨hz, rfl, _⟩ | ⟨hz, rfl, _⟩
  · rw [if_pos hz]; rfl
  · rw [if_neg (by omega)]; rfl
theorem MR.ren {i : Nat} {L : List Nat} {cv : AV} {oC : AObj} (h : MR i L cv oC) (π : Nat → Nat) : cv.ren π = if i = 0 then .nilSlice else .osl (π 6) 0 i 1 := by
  rcases h with ⟨hz, rfl, _⟩ | ⟨hz, rfl, _⟩
  · rw [if_pos hz]; rfl
  · rw [if_neg (by omega)]; rfl
def cvv (n b : Nat) : AV := if n = 0 then .nilSlice else .osl b 0 n 9
def ovv (n b : Nat) : AV := if n = 0 then .nilSlice else .osl b 0 n 1
theorem MC.is {i : Nat} {L : List Call9} {cv : AV} {oC : AObj} (h : MC i L cv oC) : cv = cvv i 5 := by
  rw [← ren_id cv, h.ren]
  rfl
theorem MR.is {i : Nat} {L : List Nat} {cv : AV} {oC : AObj} (h : MR i L cv oC) : cv = ovv i 6 := by
  rw [← ren_id cv, h.ren]
  rfl
def idM (b : Nat) : Nat := if b = 7 ∨ b = 8 then 0 else b
theorem hCM (st : S3) (oC oO : AObj) (row trow : List AV) : ∀ b o, (CMd st oC oO row trow).get b = some o → o.rw = true → b ∈ [6, 5, 4, 3, 2, 1] := fun b o h hr => canF_rw b o h hr
section
variable {lA tA : AV} {n nt : Nat} {row trow : List AV} {f : Nat → Do3} {τ : Nat → Nat} (W : RwD lA n row f) (W2 : RwT tA nt trow τ)
include W W2
theorem m_loop : ∀ (k i : Nat), n - i = k → i ≤ n → ∀ {S T : Option (List (Int × Int))} {Q : Option (List Int × Nat)} {st : S3} {cv ov x90 x95 : AV} {oC oO : AObj}, Inv3 S T Q st → qlen Q ≤ i → rep S T Q = psM f i → MC i (LF f τ i) cv oC → MR i (List.range i) ov oO → X12 x90 → X12 x95 →
    ∃ S' T' Q' st' oC' oO' cv' ov' x90' x95', Inv3 S' T' Q' st' ∧ MC n (LF f τ n) cv' oC' ∧ MR n (List.range n) ov' oO' ∧ X12 x90' ∧ X12 x95' ∧
      Go.Mini.Good Try.prog [(9, trow), (0, row)] (CMd st oC oO row trow) [6, 5, 4, 3, 2, 1] (TM lA tA cv ov x90 x95 (stM τ i) i) (.loop (loopAt Try.prog 24 0)) (.exit 0) (TM lA tA cv' ov' x90' x95' (stM τ n) n) (CMd st' oC' oO' row trow) [6, 5, 4, 3, 2, 1] := by
  intro k
  induction k with
  | zero =>
    intro i hk hi S T Q st cv ov x90 x95 oC oO inv _ _ hc ho h90 h95
    have : i = n := by omega
    subst this
    refine ⟨S, T, Q, st, oC, oO, cv, ov, x90, x95, inv, hc, ho, h90, h95, Good.loop_stop ?_ (by simp)⟩
    refine canM W W2 (runX_sound mixed none_sound (m_end lA tA cv ov x90 x95 st.mS st.mT st.q .nilFunc .nilFunc .nilFunc i 0 i 0 0 (stM τ i) 0 0 0 0 0 0 0 0 0 0 0 0 0 0 0 0 0 0 0 0 st.oS st.oT st.oQ oC oO .dead .dead .dead .dead .dead .dead row trow) ⟨W.len _, ltq i i false (by simp), trivial⟩) inv hc ho h90 h95 idM rfl rfl rfl rfl (by decide) (by decide) rfl rfl rfl rfl rfl ?_ rfl rfl ⟨.inr (.inr ⟨6, by simp, rfl⟩), .inr (.inr ⟨5, by simp, rfl⟩), .inr (.inr ⟨4, by simp, rfl⟩), .inr (.inr ⟨3, by simp, rfl⟩), .inr (.inr ⟨2, by simp, rfl⟩), .inr (.inr ⟨1, by simp, rfl⟩), .inr (.inr ⟨9, by simp, rfl⟩), .inr (.inr ⟨0, by simp, rfl⟩), trivial⟩ rfl (show 10 ≤ 10 by decide) (fun b _ _ => rfl) ?_
    · show some (AObj.cells false [st.mS, st.mT, st.q]) = some (.cells false [st.mS.ren _, st.mT.ren _, st.q.ren _])
      rw [inv.s.ren _ rfl, inv.t.ren _ rfl, inv.q.ren _ rfl]
    · rw [show cv.ren idM = cv from by rw [hc.ren]; exact hc.is.symm, show ov.ren idM = ov from by rw [ho.ren]; exact ho.is.symm]
      repeat (first | exact rfl | refine ⟨_, _, rfl, ?_, ?_⟩ | exact .inr ⟨rfl, rfl⟩ | exact .inl ⟨rfl, rfl⟩ | exact .inl ⟨W.na.1.symm, W.na.2⟩ | exact .inl ⟨W2.na.1.symm, W2.na.2⟩ | exact see_same _)
  | succ k ih =>
    intro i hk hi S T Q st cv ov x90 x95 oC oO inv hq hrep hc ho h90 h95
    obtain ⟨S1, T1, Q1, st1, oC1, oO1, y90, y95, i1, r1, q1, c1, o1, k90, k95, g⟩ := m_step W W2 (x90 := x90) (x95 := x95) (show i < n by omega) inv hq hrep hc ho
    obtain ⟨S2, T2, Q2, st2, oC2, oO2, cv2, ov2, z90, z95, i2, c2, o2, l90, l95, g2⟩ := ih (i + 1) (by omega) (by omega) i1 q1 r1 c1 o1 k90 k95
    exact ⟨S2, T2, Q2, st2, oC2, oO2, cv2, ov2, z90, z95, i2, c2, o2, l90, l95, Good.loop_next (show 0 < 10 by decide) (hCM _ _ _ _ _) g g2⟩
end
theorem m0_eq : m0 = .seq mc0 (.seq mc1 (.seq mc2 (.seq mc3 (.seq mc4 (.seq (.seq mc5 (.block 0 (.loop (loopAt Try.prog 24 0)))) msuf))))) := by kernel_rfl
def piM (b : Nat) : Nat := if b = 1 then 10 else if b = 2 then 11 else if b = 3 then 12 else if b = 4 then 15 else if b = 5 then 13 else if b = 6 then 14 else if b = 7 ∨ b = 8 then 0 else b
def TMz (lA tA cv ov x90 x95 : AV) (st i : Nat) : List AV := [lA, tA, uu, uu, cv, ov, .ptr 4 0, cv, ov, .int .i64 (Int.ofNat st), .int .i64 (Int.ofNat i)] ++ List.replicate 79 uu ++ [x90] ++ List.replicate 4 uu ++ [x95] ++ List.replicate 6 uu ++ [cv, ov]
theorem ren_TMz (π : Nat → Nat) (lA tA cv ov x90 x95 : AV) (st i : Nat) : ∃ l, rens π (TMz lA tA cv ov x90 x95 st i) = l ∧ tget l 4 = cv.ren π ∧ tget l 5 = ov.ren π := ⟨_, rfl, rfl, rfl⟩
section
variable {lA tA : AV} {n nt : Nat} {row trow : List AV} {f : Nat → Do3} {τ : Nat → Nat} (W : RwD lA n row f) (W2 : RwT tA nt trow τ)
include W W2
theorem names_TMz {cv ov x90 x95 : AV} (h90 : X12 x90) (h95 : X12 x95) (hc : cv.names (fun b => Nat.blt b 10) = true) (ho : ov.names (fun b => Nat.blt b 10) = true) (st i : Nat) : namess (fun b => Nat.blt b 10) (TMz lA tA cv ov x90 x95 st i) = true := by
  unfold TMz
  simp only [namess, List.replicate, List.cons_append, List.nil_append, W.xn (show 0 < 10 by decide), W2.xn (show 9 < 10 by decide), hc, ho, h90.nm, h95.nm, AV.names, namess, Bool.and_true, Bool.and_self]
  rfl
theorem made_small : ∃ bc bo s1, 10 ≤ bc ∧ 10 ≤ bo ∧ bc ≠ bo ∧ Sound Try.prog (.call 24 [lA, tA] (canF [] [(9, trow), (0, row)] 2 10)) ⟨.ret, [.tuple [cvv n bc, ovv n bo]], s1⟩ ∧ (0 < n → s1.get bc = some (.cells false (rowsOf callC (LF f τ n))) ∧ s1.get bo = some (.cells false (nc (List.range n)))) := by
  obtain ⟨S', T', Q', st', oC', oO', cv', ov', x90', x95', inv, hc, ho, h90, h95, g⟩ := m_loop W W2 n 0 rfl (Nat.zero_le _) (S := none) (T := none) (Q := none) (st := stN) (cv := .nilSlice) (ov := .nilSlice) (x90 := undefA) (x95 := undefA) (oC := phO) (oO := phO) invN (Nat.zero_le _) rfl (.inl ⟨rfl, rfl, phFree⟩) (.inl ⟨rfl, rfl, phFree⟩) (.inl rfl) (.inl rfl)
  have mp5' := runX_sound mixed none_sound (mp5 lA tA .nilSlice .nilSlice undefA undefA .nilMap .nilMap .nilSlice .nilFunc .nilFunc .nilFunc n 0 0 0 0 10 0 0 0 0 0 0 0 0 0 0 0 0 0 0 0 0 0 0 0 0 phO phO phO phO phO .dead .dead .dead .dead .dead .dead row trow) trivial
  have g5 : Go.Mini.Good Try.prog [(9, trow), (0, row)] ⟨⟨[(15, .cells false [.nilMap, .nilMap, .nilSlice]), (14, phO), (13, phO), (12, phO), (11, phO), (10, phO), (9, .cells true trow), (0, .cells true row)], 8, none, []⟩, 16⟩ [15, 14, 13, 12, 11, 10] _ mc5 .normal (TM lA tA .nilSlice .nilSlice undefA undefA 10 0) (CMd stN phO phO row trow) [6, 5, 4, 3, 2, 1] :=
    canM W W2 mp5' invN (i := 0) (j := 0) (L := []) (R := []) (.inl ⟨rfl, rfl, phFree⟩) (.inl ⟨rfl, rfl, phFree⟩) (.inl rfl) (.inl rfl) piM rfl rfl rfl rfl (by decide) (by decide) rfl rfl rfl rfl rfl rfl rfl rfl ⟨.inr (.inr ⟨4, by simp, rfl⟩), .inr (.inr ⟨6, by simp, rfl⟩), .inr (.inr ⟨5, by simp, rfl⟩), .inr (.inr ⟨3, by simp, rfl⟩), .inr (.inr ⟨2, by simp, rfl⟩), .inr (.inr ⟨1, by simp, rfl⟩), .inr (.inr ⟨9, by simp, rfl⟩), .inr (.inr ⟨0, by simp, rfl⟩), trivial⟩ rfl (show 16 ≤ 16 by decide) (fun b _ _ => rfl) (by
      repeat (first | exact rfl | refine ⟨_, _, rfl, ?_, ?_⟩ | exact .inr ⟨rfl, rfl⟩ | exact .inl ⟨rfl, rfl⟩ | exact .inl ⟨W.na.1.symm, W.na.2⟩ | exact .inl ⟨W2.na.1.symm, W2.na.2⟩ | exact see_same _))
  have hsuf : Sound Try.prog (.code msuf (TM lA tA cv' ov' x90' x95' (stM τ n) n) (CMd st' oC' oO' row trow)) ⟨.ret, TMz lA tA cv' ov' x90' x95' (stM τ n) n, CMd st' oC' oO' row trow⟩ :=
    Sound.sees (runX_sound mixed none_sound (m_suf lA tA cv' ov' x90' x95' st'.mS st'.mT st'.q .nilFunc .nilFunc .nilFunc n 0 n 0 0 (stM τ n) 0 0 0 0 0 0 0 0 0 0 0 0 0 0 0 0 0 0 0 0 st'.oS st'.oT st'.oQ oC' oO' .dead .dead .dead .dead .dead .dead row trow) trivial) (by
      unfold TMz
      repeat (first | exact rfl | refine ⟨_, _, rfl, ?_, ?_⟩ | exact .inr ⟨rfl, rfl⟩ | exact .inl ⟨rfl, rfl⟩ | exact .inl ⟨W.na.1.symm, W.na.2⟩ | exact .inl ⟨W2.na.1.symm, W2.na.2⟩ | exact see_same _))
  have hC5 : ∀ b o, AS.get ⟨⟨[(15, .cells false [.nilMap, .nilMap, .nilSlice]), (14, phO), (13, phO), (12, phO), (11, phO), (10, phO), (9, .cells true trow), (0, .cells true row)], 8, none, []⟩, 16⟩ b = some o → o.rw = true → b ∈ [15, 14, 13, 12, 11, 10] := fun b o h hr =>
    canF_rw (bsC := [(15, .cells false [.nilMap, .nilMap, .nilSlice]), (14, phO), (13, phO), (12, phO), (11, phO), (10, phO)]) (Fz := [(9, trow), (0, row)]) (lC := 8) (nxC := 16) b o h hr
  obtain ⟨π, s', k1, k2, k3, k4, k5⟩ := Good.ends (Good.seq_next (show 0 < 10 by decide) hC5 g5 (Good.block_exit g)) hC5 hsuf (fun b hb => by
      have hf : ∀ b ∈ [6, 5, 4, 3, 2, 1], (objAt (CMd st' oC' oO' row trow) b).rw = true ∧ (objAt (CMd st' oC' oO' row trow) b).names (fun b => Nat.blt b 10) = true := by
        intro b hb
        simp only [List.mem_cons, List.not_mem_nil, or_false] at hb
        rcases hb with rfl | rfl | rfl | rfl | rfl | rfl
        · exact ⟨ho.fr.1, ho.fr.nm _⟩
        · exact ⟨hc.fr.1, hc.fr.nm _⟩
        · exact ⟨rfl, and2 (inv.s.nm (show 1 < 10 by decide)) (and2 (inv.t.nm (show 2 < 10 by decide)) (and2 (inv.q.nm (show 3 < 10 by decide)) rfl))⟩
        · exact ⟨inv.q.fr.1, inv.q.fr.nm _⟩
        · exact ⟨inv.t.fr.1, inv.t.fr.nm _⟩
        · exact ⟨inv.s.fr.1, inv.s.fr.nm _⟩
      exact ⟨.inl (hf b hb).1, (hf b hb).2⟩) (names_TMz W W2 h90 h95 hc.nm ho.nm _ _)
  have big : ∀ b ∈ [6, 5, 4, 3, 2, 1], 10 ≤ π b := fun b hb => by
    rcases k4 b hb with h | h
    · have h : 16 ≤ π b := h
      omega
    · simp only [List.mem_cons, List.not_mem_nil, or_false] at h
      omega
  obtain ⟨l, l1, l2, l3⟩ := ren_TMz π lA tA cv' ov' x90' x95' (stM τ n) n
  rw [l1] at k1
  have k : Sound Try.prog (.code m0 (lA :: tA :: List.replicate 102 undefA) ⟨⟨[(14, phO), (13, phO), (12, phO), (11, phO), (10, phO), (9, .cells true trow), (0, .cells true row)], 7, none, []⟩, 15⟩) ⟨.ret, l, s'⟩ := by
    rw [m0_eq]
    exact seq_next (runX_sound mixed none_sound (mp0 lA tA .nilSlice .nilSlice undefA undefA .nilMap .nilMap .nilSlice .nilFunc .nilFunc .nilFunc n 0 0 0 0 10 0 0 0 0 0 0 0 0 0 0 0 0 0 0 0 0 0 0 0 0 phO phO phO phO phO .dead .dead .dead .dead .dead .dead row trow) trivial)
      (seq_next (runX_sound mixed none_sound (mp1 lA tA .nilSlice .nilSlice undefA undefA .nilMap .nilMap .nilSlice .nilFunc .nilFunc .nilFunc n 0 0 0 0 10 0 0 0 0 0 0 0 0 0 0 0 0 0 0 0 0 0 0 0 0 phO phO phO phO phO .dead .dead .dead .dead .dead .dead row trow) trivial)
      (seq_next (runX_sound mixed none_sound (mp2 lA tA .nilSlice .nilSlice undefA undefA .nilMap .nilMap .nilSlice .nilFunc .nilFunc .nilFunc n 0 0 0 0 10 0 0 0 0 0 0 0 0 0 0 0 0 0 0 0 0 0 0 0 0 phO phO phO phO phO .dead .dead .dead .dead .dead .dead row trow) trivial)
      (seq_next (runX_sound mixed none_sound (mp3 lA tA .nilSlice .nilSlice undefA undefA .nilMap .nilMap .nilSlice .nilFunc .nilFunc .nilFunc n 0 0 0 0 10 0 0 0 0 0 0 0 0 0 0 0 0 0 0 0 0 0 0 0 0 phO phO phO phO phO .dead .dead .dead .dead .dead .dead row trow) trivial)
      (seq_next (runX_sound mixed none_sound (mp4 lA tA .nilSlice .nilSlice undefA undefA .nilMap .nilMap .nilSlice .nilFunc .nilFunc .nilFunc n 0 0 0 0 10 0 0 0 0 0 0 0 0 0 0 0 0 0 0 0 0 0 0 0 0 phO phO phO phO phO .dead .dead .dead .dead .dead .dead row trow) trivial) k1))))
  have hr : Try.f24.results.toList = [.tmp 4, .tmp 5] := by kernel_rfl
  refine ⟨π 5, π 6, s', big 5 (by simp), big 6 (by simp), fun h => absurd (k5 5 (by simp) 6 (by simp) h) (by decide), Sound.phantom phO (Sound.phantom phO (Sound.phantom phO (Sound.phantom phO (Sound.phantom phO (call_whole (fn := Try.f24) (c := m0) (vs := [cvv n (π 5), ovv n (π 6)]) Try.func24 (by kernel_rfl) k (.inr rfl) (by
    rw [hr]
    show some [tget l 4, tget l 5] = _
    rw [l2, l3, hc.ren, ho.ren]
    rfl)))))), fun hn => ⟨?_, ?_⟩⟩
  · rw [k2 5 (by simp), show objAt (CMd st' oC' oO' row trow) 5 = oC' from rfl, hc.fr.ren]
    rcases hc with ⟨h, _⟩ | ⟨_, _, h, _⟩
    · omega
    · rw [← h]
  · rw [k2 6 (by simp), show objAt (CMd st' oC' oO' row trow) 6 = oO' from rfl, ho.fr.ren]
    rcases ho with ⟨h, _⟩ | ⟨_, _, h, _⟩
    · omega
    · rw [← h]
end
end Go.Proofs.Ythooafgfpnedhaa.specsWitness
