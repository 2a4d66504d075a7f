/- specs.Witness gives the calls that have a point, sorted by it. Conditions: those that each theorem names, and no others. -/
import Derived.Test.YthooafgfpnedhaaJud15
namespace Go.Proofs.Ythooafgfpnedhaa.specsJudge
open Go Go.Mini
theorem w0_eq : w0 = .seq wc0 (.seq wc1 (.seq (.seq wc2 (.block 0 (.loop (loopAt Try.prog 19 0)))) wsuf)) := by kernel_rfl
def phW : AObj := .map [] [] 0
def wv (D : List Nat) (b : Nat) : AV := if D = [] then .nilSlice else .slice b 0 D.length D.length
def TWz (v x : AV) : List AV := uu :: uu :: v :: uu :: uu :: uu :: uu :: uu :: uu :: uu :: uu :: uu :: x :: List.replicate 13 uu
def bsC_ (oD : AObj) (lA : AV) : List (Nat × AObj) := [(2, .cells false [lA]), (1, oD)]
theorem seesT_refl : ∀ l : List AV, seesT (fun b => b) (fun _ => true) l l
  | [] => rfl
  | x :: l => ⟨x, l, rfl, see_same x, seesT_refl l⟩
theorem sli_allN {n b2 : Nat} : (Qst.sli 57 (.osl b2 0 n 1) none (some (.int .i64 (Int.ofNat n))) (some (.int .i64 (Int.ofNat n))) (.slice b2 0 n n)).ok Try.prog := by
  simp only [Qst.ok, sliceA, t57, z3, boundA]
  simp
section
variable {lA : AV} {n : Nat} {row : List AV} {f : Nat → Call9} (W : RwC lA n row f)
include W
theorem w_suf {ov oD x12} (hL : NO (livesTo f n) ov oD) (_ : X12 x12) : ∃ D' : List Nat, D'.Perm (livesTo f n) ∧ Srt (fun i => atF (f i)) D' ∧
    ∃ s2, Sound Try.prog (.code wsuf (TW lA ov x12 n n) (canS (bsW oD lA) row 3 3)) ⟨.ret, TWz (wv D' 2) x12, s2⟩ ∧ (D' ≠ [] → s2.get 2 = some (.cells false (nc D'))) ∧ ∀ b ∈ [2, 1], ((objAt s2 b).rw = true ∨ objAt s2 b = .dead) ∧ (objAt s2 b).names (fun b => Nat.blt b 3) = true := by
  have hsm := W.small
  have hsz := livesTo_len (f := f) n
  have h1 : ∀ {s2 : AS}, s2.get 1 = some (.cells false [lA]) → ∀ {o}, s2.get 2 = some o → Free o → ∀ b ∈ [2, 1], ((objAt s2 b).rw = true ∨ objAt s2 b = .dead) ∧ (objAt s2 b).names (fun b => Nat.blt b 3) = true := by
    intro s2 h o h2 hf b hb
    have hb : b = 2 ∨ b = 1 := by simpa using hb
    rcases hb with rfl | rfl
    · rw [show objAt s2 2 = o from by simp [objAt, h2]]
      exact ⟨.inl hf.1, hf.nm _⟩
    · rw [show objAt s2 1 = .cells false [lA] from by simp [objAt, h]]
      exact ⟨.inl rfl, and2 (W.xn (by decide)) rfl⟩
  rcases hL with ⟨he, rfl, hf⟩ | ⟨hne, rfl, rfl⟩
  · refine ⟨[], by rw [he], srt_nil, _, Sound.sees (runX_sound mixed none_sound (w_suf0 lA .nilSlice x12 n n 0 0 0 0 0 0 0 0 0 0 0 oD .dead row) trivial) ?_, fun h => absurd rfl h, h1 rfl rfl hf⟩
    unfold TWz wv
    rw [if_pos rfl]
    repeat (first | exact rfl | refine ⟨_, _, rfl, ?_, ?_⟩ | exact .inr ⟨rfl, rfl⟩ | exact .inl ⟨rfl, rfl⟩ | exact .inl ⟨W.na.1.symm, W.na.2⟩ | exact see_same _)
  · have hmem : ∀ s ∈ livesTo f n, s < n := fun s hs => by
      have := (List.mem_filter.1 hs).1
      simpa using this
    have hsort : (livesTo f n).Pairwise (· < ·) := List.Pairwise.sublist List.filter_sublist List.pairwise_lt_range
    obtain ⟨D', p1, p2, p3⟩ := stable_all (oB := .cells false [lA]) (oL := .cells true row) (and2 (W.xn (by decide)) rfl) (namess_sub (fun _ h => by cases h) W.nm) (n := (livesTo f n).length) (by omega) (cmp_of W) rfl hsort hmem
    have hl : D'.length = (livesTo f n).length := p1.length_eq
    have hD : D' ≠ [] := fun h => hne (List.eq_nil_of_length_eq_zero (by rw [← hl, h]; rfl))
    refine ⟨D', p1, p2, _, Sound.sees (runX_sound mixed none_sound (w_suf1 lA .nilSlice x12 n n 0 (livesTo f n).length 0 0 0 0 0 0 0 0 0 _ (.cells false (nc D')) row) ⟨p3 none none [], sli_allN, trivial⟩) ?_, fun _ => rfl, h1 rfl rfl (freeRow D')⟩
    unfold TWz wv
    rw [if_neg hD, hl]
    repeat (first | exact rfl | refine ⟨_, _, rfl, ?_, ?_⟩ | exact .inr ⟨rfl, rfl⟩ | exact .inl ⟨rfl, rfl⟩ | exact .inl ⟨W.na.1.symm, W.na.2⟩ | exact see_same _)
theorem wit_small : ∃ D' : List Nat, D'.Perm (livesTo f n) ∧ Srt (fun i => atF (f i)) D' ∧ ∃ b s1, 1 ≤ b ∧ Sound Try.prog (.call 19 [lA] (canS [] row 1 1)) ⟨.ret, [wv D' b], s1⟩ ∧ (D' ≠ [] → s1.get b = some (.cells false (nc D'))) := by
  obtain ⟨ov', oD', x', h1, h2, g⟩ := w_loop W n 0 rfl (Nat.zero_le _) (ov := .nilSlice) (x12 := undefA) (oD := phW) (.inl ⟨rfl, rfl, rfl, rfl⟩) (.inl rfl)
  obtain ⟨D', p1, p2, s2, h3, h4, h5⟩ := w_suf W h1 h2
  refine ⟨D', p1, p2, ?_⟩
  have only : ∀ b, b < 3 → b ∉ [2, 1] → b = 0 := fun b h1 h2 => by simp at h2; omega
  have hn2 : namess (fun b => Nat.blt b 3) (TWz (wv D' 2) x') = true := by
    show (true && (true && ((wv D' 2).names _ && (true && (true && (true && (true && (true && (true && (true && (true && (true && (x'.names _ && namess _ (List.replicate 13 uu)))))))))))))) = true
    rw [h2.nm]
    unfold wv
    split <;> rfl
  have fin_ : ∀ (ts : List AV) (rest : ∃ (π : Nat → Nat) (s' : AS), Sound Try.prog (.code w0 (lA :: List.replicate 25 undefA) ⟨⟨[(1, phW), (0, .cells true row)], 2, none, []⟩, 2⟩) ⟨.ret, rens π (TWz (wv D' 2) x'), s'⟩ ∧ (∀ b ∈ [2, 1], s'.get (π b) = some ((objAt s2 b).ren π)) ∧ (∀ x ∈ [(0, row)], π x.1 = x.1) ∧ (∀ b ∈ [2, 1], ∀ x ∈ [(0, row)], π b ≠ x.1)),
      ∃ b s1, 1 ≤ b ∧ Sound Try.prog (.call 19 [lA] (canS [] row 1 1)) ⟨.ret, [wv D' b], s1⟩ ∧ (D' ≠ [] → s1.get b = some (.cells false (nc D'))) := by
    rintro _ ⟨π, s', k1, k2, k3, k4⟩
    have hπ : π 2 ≠ 0 := k4 2 (by simp) (0, row) (by simp)
    have ht : rens π (TWz (wv D' 2) x') = TWz (wv D' (π 2)) x' := by
      show uu :: uu :: (wv D' 2).ren π :: uu :: uu :: uu :: uu :: uu :: uu :: uu :: uu :: uu :: x'.ren π :: rens π (List.replicate 13 uu) = _
      rw [rensW, h2.ren]
      unfold wv
      split <;> rfl
    rw [ht] at k1
    refine ⟨π 2, s', by omega, Sound.phantom phW (call_whole (fn := Try.f19) (c := w0) (vs := [wv D' (π 2)]) Try.func19 (by kernel_rfl) k1 (.inr rfl) (by kernel_rfl)), fun hD => ?_⟩
    rw [k2 2 (by simp), show objAt s2 2 = .cells false (nc D') from by simp [objAt, h4 hD], (freeRow D').ren]
  have glue_ : ∀ {ts2 : List AV}, Sound Try.prog (.code wc2 ts2 (canS (bsC_ phW lA) row 3 3)) ⟨.normal, rens (fun b => if b = 1 then 2 else if b = 2 then 1 else b) (TW lA .nilSlice undefA n 0), canS (bsC_ phW lA) row 3 3⟩ →
      (∀ {r : Res}, Sound Try.prog (.code (.seq (.seq wc2 (.block 0 (.loop (loopAt Try.prog 19 0)))) wsuf) ts2 (canS (bsC_ phW lA) row 3 3)) r → Sound Try.prog (.code w0 (lA :: List.replicate 25 undefA) ⟨⟨[(1, phW), (0, .cells true row)], 2, none, []⟩, 2⟩) r) →
      ∃ (π : Nat → Nat) (s' : AS), Sound Try.prog (.code w0 (lA :: List.replicate 25 undefA) ⟨⟨[(1, phW), (0, .cells true row)], 2, none, []⟩, 2⟩) ⟨.ret, rens π (TWz (wv D' 2) x'), s'⟩ ∧ (∀ b ∈ [2, 1], s'.get (π b) = some ((objAt s2 b).ren π)) ∧ (∀ x ∈ [(0, row)], π x.1 = x.1) ∧ (∀ b ∈ [2, 1], ∀ x ∈ [(0, row)], π b ≠ x.1) := by
    intro ts2 hr k
    have g5 := canW W (C0 := canS (bsC_ phW lA) row 3 3) (foot0 := [2, 1]) (i := 0) (oD := phW) (L := []) (ov := .nilSlice) (x12 := undefA) (.inl ⟨rfl, rfl, rfl, rfl⟩) (.inl rfl) hr (fun b => if b = 1 then 2 else if b = 2 then 1 else b) rfl (by decide) (by decide) (by decide) rfl rfl rfl ⟨.inr (.inr ⟨1, by simp, rfl⟩), .inr (.inr ⟨2, by simp, rfl⟩), .inr (.inr ⟨0, by simp, rfl⟩), trivial⟩ rfl (show 3 ≤ 3 by decide) (fun b h1 h2 => by rw [only b h1 h2]; rfl) (seesT_refl _)
    obtain ⟨π, s', q1, q2, q3, q4⟩ := Good.seq_last (Good.seq_next (show 0 < 3 by decide) (fun b o h hr => by simpa [bsC_] using can_rw b o h hr) g5 (Good.block_exit g)) h3 h5 hn2
    exact ⟨π, s', k q1, q2, q3, q4⟩
  have k := W.kind
  rcases k with ⟨c, rfl⟩ | rfl
  · refine fin_ [] (glue_ (Sound.sees (runX_sound mixed none_sound (wps2 .nilFunc .nilFunc .nilFunc n 0 0 c 0 0 0 0 0 0 0 0 0 phW .dead row) ⟨W.len _, trivial⟩) (by rw [rensTW W _ rfl (.inl rfl)]; repeat (first | exact rfl | refine ⟨_, _, rfl, ?_, ?_⟩ | exact .inr ⟨rfl, rfl⟩ | exact .inl ⟨rfl, rfl⟩ | exact see_same _))) fun h => ?_)
    rw [w0_eq]
    exact seq_next (runX_sound mixed none_sound (wps0 .nilFunc .nilFunc .nilFunc n 0 0 c 0 0 0 0 0 0 0 0 0 phW .dead row) trivial) (seq_next (runX_sound mixed none_sound (wps1 .nilFunc .nilFunc .nilFunc n 0 0 c 0 0 0 0 0 0 0 0 0 phW .dead row) trivial) h)
  · refine fin_ [] (glue_ (Sound.sees (runX_sound mixed none_sound (wpo2 .nilFunc .nilFunc .nilFunc n 0 0 0 0 0 0 0 0 0 0 0 0 phW .dead row) ⟨W.len _, trivial⟩) (by rw [rensTW W _ rfl (.inl rfl)]; repeat (first | exact rfl | refine ⟨_, _, rfl, ?_, ?_⟩ | exact .inr ⟨rfl, rfl⟩ | exact .inl ⟨rfl, rfl⟩ | exact see_same _))) fun h => ?_)
    rw [w0_eq]
    exact seq_next (runX_sound mixed none_sound (wpo0 .nilFunc .nilFunc .nilFunc n 0 0 0 0 0 0 0 0 0 0 0 0 phW .dead row) trivial) (seq_next (runX_sound mixed none_sound (wpo1 .nilFunc .nilFunc .nilFunc n 0 0 0 0 0 0 0 0 0 0 0 0 phW .dead row) trivial) h)
end
end Go.Proofs.Ythooafgfpnedhaa.specsJudge
