/- The Witness of the document gives the calls that have a point, sorted by it. Conditions: those that each theorem names, and no others. -/
import Derived.Test.YthooafgfpnedhaaJud33
namespace Go.Proofs.Ythooafgfpnedhaa.specsJudge
open Go Go.Mini
theorem y0_eq : y0 = .seq yc0 (.seq yc1 (.seq (.seq yc2 (.block 0 (.loop (loopAt Try.prog 20 0)))) ysuf)) := by kernel_rfl
def TZ (v : AV) : List AV := uu :: uu :: v :: List.replicate 50 uu
def ovD (D : List Nat) (b : Nat) : AV := if D = [] then .nilSlice else .osl b 0 D.length 1
section
variable {A : List Call9} (hA : A.length ≤ 1000)
include hA
theorem y_loop : ∀ (m i : Nat), A.length - i = m → i ≤ A.length → ∀ {L : List Nat} {ov : AV} {oD : AObj}, NOd L ov oD → Srt (atA A) L → L.Perm (livesTo (fA A) i) → ∃ L' ov' oD', NOd L' ov' oD' ∧ Srt (atA A) L' ∧ L'.Perm (livesTo (fA A) A.length) ∧
    Go.Mini.Good Try.prog [(0, co A)] (canS [(1, oD)] (co A) 2 2) [1] (TD (.osl 0 0 A.length 9) ov i) (.loop (loopAt Try.prog 20 0)) (.exit 0) (TD (.osl 0 0 A.length 9) ov' A.length) (canS [(1, oD')] (co A) 2 2) [1] := by
  intro m
  induction m with
  | zero =>
    intro i hm hi L ov oD hL hS hP
    have : i = A.length := by omega
    subst this
    refine ⟨L, ov, oD, hL, hS, hP, Good.loop_stop ?_ (by simp)⟩
    have only : ∀ b, b < 2 → b ∉ [1] → b = 0 := fun b h1 h2 => by simp at h2; omega
    have run := runX_sound mixed none_sound (y_end (.osl 0 0 A.length 9) ov A.length A.length 0 0 0 0 0 0 0 0 0 oD .dead .dead .dead (co A)) ⟨ln_51 _ _ _, ltq _ _ false (by simp), trivial⟩
    refine canD hL run (fun b => b) rfl (by decide) rfl rfl ⟨.inr (.inr ⟨1, by simp, rfl⟩), .inr (.inr ⟨0, by simp, rfl⟩), trivial⟩ rfl (show 2 ≤ 2 by decide) (fun b h1 h2 => by rw [only b h1 h2]; rfl) ?_
    rw [rensTD _ rfl, hL.ren _ rfl]
    repeat (first | exact rfl | refine ⟨_, _, rfl, ?_, ?_⟩ | exact .inr ⟨rfl, rfl⟩ | exact .inl ⟨rfl, rfl⟩ | exact .inl ⟨hL.na.1.symm, hL.na.2⟩ | exact see_same _)
  | succ m ih =>
    intro i hm hi L ov oD hL hS hP
    have hl : L.length ≤ i := by
      rw [hP.length_eq]
      exact livesTo_len i
    have hb : ∀ d ∈ L, d < i := fun d hd => by
      have := (List.mem_filter.1 (hP.mem_iff.1 hd)).1
      simpa using this
    obtain ⟨L1, ov1, oD1, a1, a2, a3, g1⟩ := y_step hA (i := i) (by omega) hL hl hb hS
    have a3' : L1.Perm (livesTo (fA A) (i + 1)) := by
      rw [livesTo_succ]
      refine a3.trans ?_
      split
      · exact List.Perm.append_right _ hP
      · exact hP
    obtain ⟨L2, ov2, oD2, b1, b2, b3, g2⟩ := ih (i + 1) (by omega) (by omega) a1 a2 a3'
    exact ⟨L2, ov2, oD2, b1, b2, b3, Good.loop_next (show 0 < 2 by decide) (fun b o h hr => can_rw b o h hr) g1 g2⟩
theorem witO_small : ∃ D' : List Nat, D'.Perm (livesTo (fA A) A.length) ∧ Srt (atA A) D' ∧ ∃ b s1, 1 ≤ b ∧ Sound Try.prog (.call 20 [.osl 0 0 A.length 9] (canS [] (co A) 1 1)) ⟨.ret, [ovD D' b], s1⟩ ∧ (D' ≠ [] → s1.get b = some (.cells false (nc D'))) := by
  obtain ⟨D', ov', oD', h1, p2, p1, g⟩ := y_loop hA A.length 0 rfl (Nat.zero_le _) (L := []) (ov := .nilSlice) (oD := phO) (.inl ⟨rfl, rfl, phFree⟩) srt_nil (List.Perm.refl _)
  refine ⟨D', p1, p2, ?_⟩
  have only : ∀ b, b < 2 → b ∉ [1] → b = 0 := fun b h1 h2 => by simp at h2; omega
  have eov : ov' = ovD D' 1 := by
    rcases h1 with ⟨h, e, _⟩ | ⟨h, e, _⟩
    · rw [e, h]; rfl
    · rw [e]; exact (if_neg h).symm
  have suf : Sound Try.prog (.code ysuf (TD (.osl 0 0 A.length 9) ov' A.length) (canS [(1, oD')] (co A) 2 2)) ⟨.ret, TZ ov', canS [(1, oD')] (co A) 2 2⟩ := by
    refine Sound.sees (runX_sound mixed none_sound (y_suf (.osl 0 0 A.length 9) ov' 0 A.length 0 0 0 0 0 0 0 0 0 oD' .dead .dead .dead (co A)) trivial) ?_
    unfold TZ
    repeat (first | exact rfl | refine ⟨_, _, rfl, ?_, ?_⟩ | exact .inr ⟨rfl, rfl⟩ | exact .inl ⟨rfl, rfl⟩ | exact .inl ⟨h1.na.1.symm, h1.na.2⟩ | exact see_same _)
  have g5 := canD (C0 := canS [(1, phO)] (co A) 2 2) (foot0 := [1]) (n := A.length) (i := 0) (oD := phO) (L := []) (ov := .nilSlice) (.inl ⟨rfl, rfl, phFree⟩) (runX_sound mixed none_sound (yp2 (.osl 0 0 A.length 9) .nilFunc 0 0 0 0 0 0 0 0 0 0 0 phO .dead .dead .dead (co A)) trivial) (fun b => b) rfl (by decide) rfl rfl ⟨.inr (.inr ⟨1, by simp, rfl⟩), .inr (.inr ⟨0, by simp, rfl⟩), trivial⟩ rfl (show 2 ≤ 2 by decide) (fun b h1 h2 => by rw [only b h1 h2]; rfl) (by
    rw [rensTD _ rfl]
    repeat (first | exact rfl | refine ⟨_, _, rfl, ?_, ?_⟩ | exact .inr ⟨rfl, rfl⟩ | exact .inl ⟨rfl, rfl⟩ | exact see_same _))
  have hn2 : namess (fun b => Nat.blt b 2) (TZ ov') = true := by
    show (true && (true && (ov'.names _ && namess _ (List.replicate 50 uu)))) = true
    rw [h1.nm]
    rfl
  have h5 : ∀ b ∈ [1], ((objAt (canS [(1, oD')] (co A) 2 2) b).rw = true ∨ objAt (canS [(1, oD')] (co A) 2 2) b = .dead) ∧ (objAt (canS [(1, oD')] (co A) 2 2) b).names (fun b => Nat.blt b 2) = true := fun b hb => by
    have hb : b = 1 := by simpa using hb
    subst hb
    exact ⟨.inl h1.free.1, h1.free.nm _⟩
  obtain ⟨π, s', k1, k2, k3, k4⟩ := Good.seq_last (Good.seq_next (show 0 < 2 by decide) (fun b o h hr => can_rw b o h hr) g5 (Good.block_exit g)) suf h5 hn2
  have hπ : π 1 ≠ 0 := k4 1 (by simp) (0, co A) (by simp)
  have ht : rens π (TZ ov') = TZ (ovD D' (π 1)) := by
    show uu :: uu :: ov'.ren π :: rens π (List.replicate 50 uu) = _
    rw [rensW, eov]
    unfold ovD TZ
    split <;> rfl
  rw [ht] at k1
  have k : Sound Try.prog (.code y0 (.osl 0 0 A.length 9 :: List.replicate 52 undefA) ⟨⟨[(1, phO), (0, .cells true (co A))], 2, none, []⟩, 2⟩) ⟨.ret, TZ (ovD D' (π 1)), s'⟩ := by
    rw [y0_eq]
    exact seq_next (runX_sound mixed none_sound (yp0 (.osl 0 0 A.length 9) .nilFunc 0 0 0 0 0 0 0 0 0 0 0 phO .dead .dead .dead (co A)) trivial) (seq_next (runX_sound mixed none_sound (yp1 (.osl 0 0 A.length 9) .nilFunc 0 0 0 0 0 0 0 0 0 0 0 phO .dead .dead .dead (co A)) trivial) k1)
  refine ⟨π 1, s', by omega, Sound.phantom phO (call_whole (fn := Try.f20) (c := y0) (vs := [ovD D' (π 1)]) Try.func20 (by kernel_rfl) k (.inr rfl) (by kernel_rfl)), fun hD => ?_⟩
  have eo : oD' = .cells false (nc D') := by
    rcases h1 with ⟨h, _, _⟩ | ⟨_, _, e⟩
    · exact absurd h hD
    · exact e
  rw [k2 1 (by simp), show objAt (canS [(1, oD')] (co A) 2 2) 1 = .cells false (nc D') from by rw [eo]; rfl, (freeRow D').ren]
/-- The document's Witness, wherever the rows lie. -/
theorem witO : ∃ D' : List Nat, D'.Perm (livesTo (fA A) A.length) ∧ Srt (atA A) D' ∧ ∀ (s : AS) (ro : Bool) (b0 : Nat), s.get b0 = some (.cells ro (co A)) → Sound Try.prog (.call 20 [.osl b0 0 A.length 9] s) ⟨.ret, [ovD D' s.nx], s.push (oWit D')⟩ := by
  obtain ⟨D', p1, p2, b, s1, hb, hs, ho⟩ := witO_small hA
  refine ⟨D', p1, p2, fun s ro b0 h0 => ?_⟩
  by_cases hD : D' = []
  · have e1 : ∀ b, ovD D' b = .nilSlice := fun b => if_pos hD
    rw [e1] at hs ⊢
    rw [show oWit D' = phO from if_pos hD]
    exact put_nil hs (names_co _ _) rfl h0
  · have e1 : ∀ b, ovD D' b = .osl b 0 D'.length 1 := fun b => if_neg hD
    rw [e1] at hs ⊢
    rw [show oWit D' = .cells false (nc D') from if_neg hD]
    exact put_osl hs hb (ho hD) (nc_names _ _) (names_co _ _) rfl h0
end
end Go.Proofs.Ythooafgfpnedhaa.specsJudge
