/- The Judge of the document names the first call that does not fit. Conditions: those that each theorem names, and no others. -/
import Derived.Test.YthooafgfpnedhaaJud35
namespace Go.Proofs.Ythooafgfpnedhaa.specsJudge
open Go Go.Mini
theorem u0_eq : u0 = .seq uc0 (.seq uc1 (.seq uc2 (.seq (.seq uc3 (.block 0 (.loop (loopAt Try.prog 22 0)))) usuf))) := by kernel_rfl
theorem lv_na (l : List Pr) (b : Nat) : junkOf (lv l b) = uu ∧ junkable (lv l b) = true := by
  unfold lv
  split <;> exact ⟨rfl, rfl⟩
section
variable {A : List Call9} {D : List Nat}
theorem footK {ds : DP} {st : S3} (inv : InvD ds st) : ∀ b ∈ [5, 4, 3, 2, 1], ((objAt (canS (bsJ st (oWit D)) (co A) 6 6) b).rw = true ∨ objAt (canS (bsJ st (oWit D)) (co A) 6 6) b = .dead) ∧ (objAt (canS (bsJ st (oWit D)) (co A) 6 6) b).names (fun b => Nat.blt b 6) = true := by
  have hw := freeWit D
  have nS : st.mS.names (fun c => Nat.blt c 6) = true := by rw [inv.s.1]; exact lv_nm _ (by decide)
  have nT : st.mT.names (fun c => Nat.blt c 6) = true := by rw [inv.t.1]; exact lv_nm _ (by decide)
  have nQ : st.q.names (fun c => Nat.blt c 6) = true := by rw [inv.q.1]; exact qD_nm _ (by decide)
  intro b hb
  simp only [List.mem_cons, List.not_mem_nil, or_false] at hb
  rcases hb with rfl | rfl | rfl | rfl | rfl
  · exact ⟨.inl hw.1, hw.nm _⟩
  · exact ⟨.inl rfl, and2 nS (and2 nT (and2 nQ rfl))⟩
  · exact ⟨.inl inv.q.2.1.1, inv.q.2.1.nm _⟩
  · exact ⟨.inl inv.t.2.1.1, inv.t.2.1.nm _⟩
  · exact ⟨.inl inv.s.2.1.1, inv.s.2.1.nm _⟩
theorem canK0 {ds : DP} {st : S3} (inv : InvD ds st) {x24 t2 t3 : AV} (h24 : XO x24) (h2 : t2.names (fun _ => false) = true) (h3 : t3.names (fun _ => false) = true)
    {TT ts1 : List AV} {c : Code} {e : AExit} {n i : Nat} (hs : Sound Try.prog (.code c TT (canS (bsJ st (oWit D)) (co A) 6 6)) ⟨e, ts1, canS (bsJ st (oWit D)) (co A) 6 6⟩) (hts : seesT (fun b => b) (fun _ => true) (TK (.osl 0 0 n 9) (ovD D 5) x24 t2 t3 i) ts1) :
    Go.Mini.Good Try.prog [(0, co A)] (canS (bsJ st (oWit D)) (co A) 6 6) [5, 4, 3, 2, 1] TT c e (TK (.osl 0 0 n 9) (ovD D 5) x24 t2 t3 i) (canS (bsJ st (oWit D)) (co A) 6 6) [5, 4, 3, 2, 1] := by
  have only : ∀ b, b < 6 → b ∉ [5, 4, 3, 2, 1] → b = 0 := fun b h1 h2 => by simp at h2; omega
  have hw := freeWit D
  have nS : st.mS.names (fun c => Nat.blt c 6) = true := by rw [inv.s.1]; exact lv_nm _ (by decide)
  have nT : st.mT.names (fun c => Nat.blt c 6) = true := by rw [inv.t.1]; exact lv_nm _ (by decide)
  have nQ : st.q.names (fun c => Nat.blt c 6) = true := by rw [inv.q.1]; exact qD_nm _ (by decide)
  refine Good.can (bsC := bsJ st (oWit D)) (nxC := 6) hs noG (fun b => b) rfl (names_co _ _) ⟨⟨show 0 < 5 by decide, show 5 < 6 by decide, rfl, hw.1, hw.nm _, by rw [hw.ren]; rfl⟩, ⟨show 0 < 4 by decide, show 4 < 6 by decide, rfl, rfl, and2 nS (and2 nT (and2 nQ rfl)), ?_⟩, ⟨show 0 < 3 by decide, show 3 < 6 by decide, rfl, inv.q.2.1.1, inv.q.2.1.nm _, by rw [inv.q.2.1.ren]; rfl⟩, ⟨show 0 < 2 by decide, show 2 < 6 by decide, rfl, inv.t.2.1.1, inv.t.2.1.nm _, by rw [inv.t.2.1.ren]; rfl⟩, ⟨show 0 < 1 by decide, show 1 < 6 by decide, rfl, inv.s.2.1.1, inv.s.2.1.nm _, by rw [inv.s.2.1.ren]; rfl⟩, trivial⟩
    (show [5, 4, 3, 2, 1].Nodup by decide) (fun b _ c _ h => h) (show ∀ c ∈ [5, 4, 3, 2, 1], c ≠ 0 by decide) rfl ⟨.inr (.inr ⟨5, .inr (by simp [bsJ]), rfl⟩), .inr (.inr ⟨4, .inr (by simp [bsJ]), rfl⟩), .inr (.inr ⟨3, .inr (by simp [bsJ]), rfl⟩), .inr (.inr ⟨2, .inr (by simp [bsJ]), rfl⟩), .inr (.inr ⟨1, .inr (by simp [bsJ]), rfl⟩), .inr (.inr ⟨0, .inl rfl, rfl⟩), trivial⟩ rfl (show 6 ≤ 6 by decide) (by decide) (fun c hc h => .inl ?_) (fun b h1 h2 => by rw [only b h1 h2]; rfl) ?_ (namesTK h24 h2 h3 i)
  · show some (AObj.cells false [st.mS, st.mT, st.q]) = some (.cells false [st.mS.ren _, st.mT.ren _, st.q.ren _])
    rw [inv.s.rn _ rfl, inv.t.rn _ rfl, inv.q.rn _ rfl]
  · show c ∈ [5, 4, 3, 2, 1]
    simp
    omega
  · rw [rensTK h24 h2 h3 _ rfl rfl rfl]
    exact hts
variable {opN : Nat → Nat} (hop : ∀ d, d < A.length → (fA A d).2.1 = Int.ofNat (opN d))
include hop
theorem u_loop (hD : ∀ d ∈ D, d < A.length) (hl : D.length ≤ 1000) : ∀ (k i : Nat), D.length - i = k → i ≤ D.length → ∀ {ds : DP} {st : S3} {x24 : AV}, InvD ds st → ds.1.length ≤ i → ds.2.1.length ≤ i → ds.2.2.length ≤ i → XO x24 →
    ∃ ds' st' x', InvD ds' st' ∧ XO x' ∧
      ((judgeD (fA A) opN (D.drop i) ds = none ∧ Go.Mini.Good Try.prog [(0, co A)] (canS (bsJ st (oWit D)) (co A) 6 6) [5, 4, 3, 2, 1] (TK (.osl 0 0 A.length 9) (ovD D 5) x24 (.int .i64 (Int.ofNat 0)) (.bool false) i) (.loop (loopAt Try.prog 22 0)) (.exit 0) (TK (.osl 0 0 A.length 9) (ovD D 5) x' (.int .i64 (Int.ofNat 0)) (.bool false) D.length) (canS (bsJ st' (oWit D)) (co A) 6 6) [5, 4, 3, 2, 1]) ∨
       (∃ d i', judgeD (fA A) opN (D.drop i) ds = some d ∧ Go.Mini.Good Try.prog [(0, co A)] (canS (bsJ st (oWit D)) (co A) 6 6) [5, 4, 3, 2, 1] (TK (.osl 0 0 A.length 9) (ovD D 5) x24 (.int .i64 (Int.ofNat 0)) (.bool false) i) (.loop (loopAt Try.prog 22 0)) .ret (TK (.osl 0 0 A.length 9) (ovD D 5) x' (.int .i64 (Int.ofNat d)) (.bool false) i') (canS (bsJ st' (oWit D)) (co A) 6 6) [5, 4, 3, 2, 1])) := by
  intro k
  induction k with
  | zero =>
    intro i hk hi ds st x24 inv _ _ _ hx
    have : i = D.length := by omega
    subst this
    refine ⟨ds, st, x24, inv, hx, .inl ⟨by rw [List.drop_length]; rfl, Good.loop_stop (canK0 inv hx rfl rfl (runX_sound mixed none_sound (u_end (.osl 0 0 A.length 9) (ovD D 5) x24 st.mS st.mT st.q .nilFunc .nilFunc .nilFunc D.length D.length 0 0 0 0 0 0 0 0 0 0 0 0 0 st.oS st.oT st.oQ (oWit D) .dead .dead .dead .dead .dead (co A)) ⟨ovD_ln D _, ltq _ _ false (by simp), trivial⟩) ?_) (by simp)⟩⟩
    unfold TK
    repeat (first | exact rfl | refine ⟨_, _, rfl, ?_, ?_⟩ | exact .inr ⟨rfl, rfl⟩ | exact .inl ⟨rfl, rfl⟩ | exact .inl ⟨(ovD_na D 5).1.symm, (ovD_na D 5).2⟩ | exact see_same _)
  | succ k ih =>
    intro i hk hi ds st x24 inv h1 h2 h3 hx
    have hlt : i < D.length := by omega
    obtain ⟨st1, i1, g⟩ := u_step hop hD hl inv (x24 := x24) hlt h1 h2 h3
    obtain ⟨l1, l2, l3⟩ := stepD_len ds (opN D[i]) (kF (fA A D[i])) (vF (fA A D[i]))
    have hdr : D.drop i = D[i] :: D.drop (i + 1) := List.drop_eq_getElem_cons hlt
    rcases g with ⟨hb, g⟩ | ⟨hb, g⟩
    · obtain ⟨ds2, st2, x2, i2, hx2, h⟩ := ih (i + 1) (by omega) (by omega) i1 (by omega) (by omega) (by omega) (.inr ⟨_, rfl⟩)
      have e : judgeD (fA A) opN (D.drop i) ds = judgeD (fA A) opN (D.drop (i + 1)) (stepD ds (opN D[i]) (kF (fA A D[i])) (vF (fA A D[i]))).2 := by
        rw [hdr]
        show (if badF _ _ = true then _ else _) = _
        rw [hb]
        rfl
      refine ⟨ds2, st2, x2, i2, hx2, ?_⟩
      rw [e]
      rcases h with ⟨h1, h2⟩ | ⟨d, i', h1, h2⟩
      · exact .inl ⟨h1, Good.loop_next (show 0 < 6 by decide) (fun b o h hr => can_rw b o h hr) g h2⟩
      · exact .inr ⟨d, i', h1, Good.loop_next (show 0 < 6 by decide) (fun b o h hr => can_rw b o h hr) g h2⟩
    · refine ⟨_, st1, _, i1, .inr ⟨_, rfl⟩, .inr ⟨D[i], i, ?_, Good.loop_stop g (by simp)⟩⟩
      rw [hdr]
      show (if badF _ _ = true then _ else _) = _
      rw [hb]
      rfl
def stND : S3 := ⟨.nilSlice, .nilSlice, .nilSlice, phO, phO, phO⟩
omit hop in
theorem invND : InvD ([], [], []) stND := ⟨LO.nil phFree, LO.nil phFree, ⟨rfl, phFree, fun h => absurd rfl h⟩⟩
theorem judgeO_small (hA : A.length ≤ 1000) : ∃ D' : List Nat, D'.Perm (livesTo (fA A) A.length) ∧ Srt (atA A) D' ∧ ∃ s1, Sound Try.prog (.call 22 [.osl 0 0 A.length 9] (canS [] (co A) 1 1)) ⟨.ret, [judgeV (judgeD (fA A) opN D' ([], [], []))], s1⟩ := by
  obtain ⟨D', p1, p2, hwit⟩ := witO hA
  refine ⟨D', p1, p2, ?_⟩
  have hlen : D'.length ≤ 1000 := by
    rw [p1.length_eq]
    exact Nat.le_trans (livesTo_len _) hA
  have hD : ∀ d ∈ D', d < A.length := fun d hd => by
    have := (List.mem_filter.1 (p1.mem_iff.1 hd)).1
    simpa using this
  obtain ⟨ds', st', x', inv, hx, h⟩ := u_loop hop hD hlen D'.length 0 rfl (Nat.zero_le _) (x24 := undefA) invND (Nat.zero_le _) (Nat.zero_le _) (Nat.zero_le _) (.inl rfl)
  have hwit' := hwit ⟨⟨[(4, .cells false [.nilSlice, .nilSlice, .nilSlice]), (3, phO), (2, phO), (1, phO), (0, .cells true (co A))], 5, none, []⟩, 5⟩ true 0 rfl
  have head : Sound Try.prog (.code uc3 [.osl 0 0 A.length 9, undefA, .int .i64 (Int.ofNat 0), .bool false, .ptr 4 0, ovD D' 5, undefA, undefA, undefA, undefA, .osl 0 0 A.length 9, ovD D' 5, undefA, undefA, undefA, undefA, undefA, undefA, undefA, undefA, undefA, undefA, undefA, undefA, undefA, undefA, undefA, undefA, undefA, undefA, undefA, undefA, undefA, undefA, undefA, undefA, undefA, undefA, undefA, undefA, undefA, undefA, undefA, undefA, undefA, undefA, undefA, undefA, undefA, undefA, undefA, undefA, undefA, undefA, undefA, undefA, undefA, undefA, undefA, undefA, undefA, undefA, undefA, undefA, undefA, undefA, undefA, undefA] (canS (bsJ stND (oWit D')) (co A) 6 6)) ⟨.normal, TK (.osl 0 0 A.length 9) (ovD D' 5) undefA (.int .i64 (Int.ofNat 0)) (.bool false) 0, canS (bsJ stND (oWit D')) (co A) 6 6⟩ :=
    Sound.sees (runX_sound mixed none_sound (up3 (.osl 0 0 A.length 9) (ovD D' 5) .nilFunc .nilFunc .nilFunc .nilFunc .nilFunc .nilFunc .nilFunc 0 0 0 0 0 0 0 0 0 0 0 0 0 0 0 phO phO phO (oWit D') .dead .dead .dead .dead .dead (co A)) trivial) (by
      unfold TK
      repeat (first | exact rfl | refine ⟨_, _, rfl, ?_, ?_⟩ | exact .inr ⟨rfl, rfl⟩ | exact .inl ⟨rfl, rfl⟩ | exact .inl ⟨(ovD_na D' 5).1.symm, (ovD_na D' 5).2⟩ | exact see_same _))
  have whole : ∀ {ts : List AV} {s' : AS} {a b : AV}, tget ts 2 = a → tget ts 3 = b → Sound Try.prog (.code (.seq (.seq uc3 (.block 0 (.loop (loopAt Try.prog 22 0)))) usuf) [.osl 0 0 A.length 9, undefA, .int .i64 (Int.ofNat 0), .bool false, .ptr 4 0, ovD D' 5, undefA, undefA, undefA, undefA, .osl 0 0 A.length 9, ovD D' 5, undefA, undefA, undefA, undefA, undefA, undefA, undefA, undefA, undefA, undefA, undefA, undefA, undefA, undefA, undefA, undefA, undefA, undefA, undefA, undefA, undefA, undefA, undefA, undefA, undefA, undefA, undefA, undefA, undefA, undefA, undefA, undefA, undefA, undefA, undefA, undefA, undefA, undefA, undefA, undefA, undefA, undefA, undefA, undefA, undefA, undefA, undefA, undefA, undefA, undefA, undefA, undefA, undefA, undefA, undefA, undefA] (canS (bsJ stND (oWit D')) (co A) 6 6)) ⟨.ret, ts, s'⟩ → ∃ s1, Sound Try.prog (.call 22 [.osl 0 0 A.length 9] (canS [] (co A) 1 1)) ⟨.ret, [.tuple [a, b]], s1⟩ := by
    intro ts s' a b ha hb hs
    have k1 : Sound Try.prog (.code u0 (.osl 0 0 A.length 9 :: List.replicate 67 undefA) ⟨⟨[(3, phO), (2, phO), (1, phO), (0, .cells true (co A))], 4, none, []⟩, 4⟩) ⟨.ret, ts, s'⟩ := by
      rw [u0_eq]
      exact seq_next (runX_sound mixed none_sound (up0 (.osl 0 0 A.length 9) (ovD D' 5) .nilFunc .nilFunc .nilFunc .nilFunc .nilFunc .nilFunc .nilFunc 0 0 0 0 0 0 0 0 0 0 0 0 0 0 0 phO phO phO (oWit D') .dead .dead .dead .dead .dead (co A)) trivial) (seq_next (runX_sound mixed none_sound (up1 (.osl 0 0 A.length 9) (ovD D' 5) .nilFunc .nilFunc .nilFunc .nilFunc .nilFunc .nilFunc .nilFunc 0 0 0 0 0 0 0 0 0 0 0 0 0 0 0 phO phO phO (oWit D') .dead .dead .dead .dead .dead (co A)) trivial) (seq_next (runX_sound mixed none_sound (up2 (.osl 0 0 A.length 9) (ovD D' 5) .nilFunc .nilFunc .nilFunc .nilFunc .nilFunc .nilFunc .nilFunc 0 0 0 0 0 0 0 0 0 0 0 0 0 0 0 phO phO phO (oWit D') .dead .dead .dead .dead .dead (co A)) ⟨hwit', trivial⟩) hs))
    have hr : Try.f22.results.toList = [.tmp 2, .tmp 3] := by kernel_rfl
    exact ⟨s', Sound.phantom phO (Sound.phantom phO (Sound.phantom phO (call_whole (fn := Try.f22) (c := u0) (vs := [a, b]) Try.func22 (by kernel_rfl) k1 (.inr rfl) (by
      rw [hr]
      show some [tget ts 2, tget ts 3] = _
      rw [ha, hb]))))⟩
  rcases h with ⟨h1, g⟩ | ⟨d, i', h1, g⟩
  · have h1 : judgeD (fA A) opN D' ([], [], []) = none := h1
    rw [h1]
    obtain ⟨π, ts1, s1, s', k1, k2, _⟩ := Good.finish (Good.block_exit g) (Sound.sees (ts2 := TK (.osl 0 0 A.length 9) (ovD D' 5) x' (.int .i64 (Int.negSucc 0)) (.bool true) D'.length) (runX_sound mixed none_sound (u_suf (.osl 0 0 A.length 9) (ovD D' 5) x' st'.mS st'.mT st'.q .nilFunc .nilFunc .nilFunc 0 D'.length 0 0 0 0 0 0 0 0 0 0 0 0 0 st'.oS st'.oT st'.oQ (oWit D') .dead .dead .dead .dead .dead (co A)) trivial) (by
      unfold TK
      repeat (first | exact rfl | refine ⟨_, _, rfl, ?_, ?_⟩ | exact .inr ⟨rfl, rfl⟩ | exact .inl ⟨rfl, rfl⟩ | exact see_same _))) (footK inv) (namesTK hx rfl rfl _)
    exact whole rfl rfl (seq_next (seq_next head k1) k2)
  · have h1 : judgeD (fA A) opN D' ([], [], []) = some d := h1
    rw [h1]
    obtain ⟨s1, π1, S1, _, _⟩ := g
    exact whole rfl rfl (seq_stop (seq_next head (block_past S1 (by simp))) (by simp))
theorem judgeO (hA : A.length ≤ 1000) : ∃ D' : List Nat, D'.Perm (livesTo (fA A) A.length) ∧ Srt (atA A) D' ∧ ∀ (s : AS) (ro : Bool) (b0 : Nat), s.get b0 = some (.cells ro (co A)) → Sound Try.prog (.call 22 [.osl b0 0 A.length 9] s) ⟨.ret, [judgeV (judgeD (fA A) opN D' ([], [], []))], s⟩ := by
  obtain ⟨D', p1, p2, s1, hs⟩ := judgeO_small hop hA
  have hv : (judgeV (judgeD (fA A) opN D' ([], [], []))).names (fun _ => false) = true := by
    unfold judgeV
    split <;> rfl
  exact ⟨D', p1, p2, fun s ro b0 h0 => put_val hs (names_co _ _) rfl hv h0⟩
end
end Go.Proofs.Ythooafgfpnedhaa.specsJudge
