/- specs.Judge names the first call that does not fit. Conditions: those that each theorem names, and no others. -/
import Derived.Test.YthooafgfpnedhaaJud21
namespace Go.Proofs.Ythooafgfpnedhaa.specsJudge
open Go Go.Mini
theorem j0_eq : j0 = .seq jc0 (.seq jc1 (.seq (.seq jc2 (.block 0 (.loop (loopAt Try.prog 21 0)))) jsuf)) := by kernel_rfl
def oWit (D : List Nat) : AObj := if D = [] then phO else .cells false (nc D)
theorem freeWit (D : List Nat) : Free (oWit D) := by
  unfold oWit
  split
  · exact phFree
  · exact freeRow D
theorem wa_of (D : List Nat) : WA D (wv D 5) (oWit D) := by
  by_cases h : D = []
  · exact .inl ⟨h, by simp [wv, h], by simpa [oWit, h] using phFree⟩
  · exact .inr ⟨by simp [wv, h], by simp [oWit, h]⟩
section
variable {lA : AV} {n : Nat} {row : List AV} {f : Nat → Call9} (W : RwC lA n row f)
include W
/-- specs.Witness, wherever the rows lie. -/
theorem witC : ∃ D' : List Nat, D'.Perm (livesTo f n) ∧ Srt (fun i => atF (f i)) D' ∧ ∀ (s : AS) (ro : Bool) (b0 : Nat), s.get b0 = some (.cells ro row) → Sound Try.prog (.call 19 [lA.ren fun _ => b0] s) ⟨.ret, [wv D' s.nx], s.push (oWit D')⟩ := by
  obtain ⟨D', p1, p2, b, s1, hb, hs, ho⟩ := wit_small W
  refine ⟨D', p1, p2, fun s ro b0 h0 => ?_⟩
  by_cases hD : D' = []
  · have := Sound.putR (bs0 := []) hs noG (fun _ => b0) [] s W.nm ⟨ro, h0⟩ (by decide) trivial (fun b hb => by cases hb) (fun b hb => by cases hb) List.nodup_nil List.nodup_nil (fun b hb => by cases hb) (and2 (W.xn (by decide)) rfl) (by rw [hD]; rfl)
    have e1 : wv D' b = .nilSlice := by simp [wv, hD]
    have e2 : wv D' s.nx = .nilSlice := by simp [wv, hD]
    rw [e1] at this
    rw [e2, show oWit D' = phO from by simp [oWit, hD]]
    exact Sound.ghost phO this
  · have hob : objAt s1 b = .cells false (nc D') := by simp [objAt, ho hD]
    have := Sound.putR (bs0 := []) hs noG (fun _ => b0) [b] s W.nm ⟨ro, h0⟩ (by decide) trivial (fun b hb => by cases hb) (fun b hb => by cases hb) List.nodup_nil (by simp) (fun c hc => by
      simp only [List.mem_singleton] at hc
      subst hc
      rw [hob]
      exact ⟨hb, rfl, nc_names _ _⟩) (and2 (W.xn (by decide)) rfl) (by
      simp only [wv, if_neg hD, AV.names, pN]
      simp)
    have e1 : wv D' b = .slice b 0 D'.length D'.length := by simp [wv, hD]
    have e2 : wv D' s.nx = .slice s.nx 0 D'.length D'.length := by simp [wv, hD]
    have e3 : pR 1 [b] (fun _ => b0) s.nx b = s.nx := by
      unfold pR
      rw [if_neg (by omega)]
      simp
    rw [e1] at this
    rw [e2, show oWit D' = .cells false (nc D') from by simp [oWit, hD]]
    simp only [List.map_nil, setL, List.map_cons, pushL, hob, (freeRow D').ren, AV.ren, e3] at this
    exact this
end
theorem len57 {D : List Nat} {wA : AV} {oW : AObj} (h : WA D wA oW) (s : AS) : lenA Try.prog s 57 wA = some (.int .i64 (Int.ofNat D.length)) := by
  rcases h with ⟨rfl, rfl, _⟩ | ⟨rfl, _⟩ <;> simp only [lenA, t57] <;> rfl
section
variable {lA : AV} {n : Nat} {row : List AV} {f : Nat → Call9} (W : RwC lA n row f) {opN : Nat → Nat} (hop : ∀ d, d < n → (f d).2.1 = Int.ofNat (opN d))
include W
theorem footJ {D : List Nat} {wA : AV} {oW : AObj} (hw : WA D wA oW) {S T : Option (List (Int × Int))} {Q : Option (List Int × Nat)} {st : S3} (inv : Inv3 S T Q st) : ∀ b ∈ [5, 4, 3, 2, 1], ((objAt (canS (bsJ st oW) row 6 6) b).rw = true ∨ objAt (canS (bsJ st oW) row 6 6) b = .dead) ∧ (objAt (canS (bsJ st oW) row 6 6) b).names (fun b => Nat.blt b 6) = true := by
  have _ := W.nm
  intro b hb
  simp only [List.mem_cons, List.not_mem_nil, or_false] at hb
  rcases hb with rfl | rfl | rfl | rfl | rfl
  · exact ⟨.inl hw.fr.1, hw.fr.nm _⟩
  · exact ⟨.inl rfl, and2 (inv.s.nm (show 1 < 6 by decide)) (and2 (inv.t.nm (show 2 < 6 by decide)) (and2 (inv.q.nm (show 3 < 6 by decide)) rfl))⟩
  · exact ⟨.inl inv.q.fr.1, inv.q.fr.nm _⟩
  · exact ⟨.inl inv.t.fr.1, inv.t.fr.nm _⟩
  · exact ⟨.inl inv.s.fr.1, inv.s.fr.nm _⟩
theorem canJ0 {D : List Nat} {wA : AV} {oW : AObj} (hw : WA D wA oW) {S T : Option (List (Int × Int))} {Q : Option (List Int × Nat)} {st : S3} (inv : Inv3 S T Q st) {x21 t2 t3 : AV} (h21 : X12 x21) (h2 : t2.names (fun _ => false) = true) (h3 : t3.names (fun _ => false) = true)
    {TT ts1 : List AV} {c : Code} {e : AExit} {m i : Nat} (hs : Sound Try.prog (.code c TT (canS (bsJ st oW) row 6 6)) ⟨e, ts1, canS (bsJ st oW) row 6 6⟩) (hts : seesT (fun b => b) (fun _ => true) (TJ lA wA x21 t2 t3 m i) ts1) :
    Go.Mini.Good Try.prog [(0, row)] (canS (bsJ st oW) row 6 6) [5, 4, 3, 2, 1] TT c e (TJ lA wA x21 t2 t3 m i) (canS (bsJ st oW) row 6 6) [5, 4, 3, 2, 1] := by
  have only : ∀ b, b < 6 → b ∉ [5, 4, 3, 2, 1] → b = 0 := fun b h1 h2 => by simp at h2; omega
  refine Good.can (bsC := bsJ st oW) (nxC := 6) hs noG (fun b => b) rfl W.nm ⟨⟨show 0 < 5 by decide, show 5 < 6 by decide, rfl, hw.fr.1, hw.fr.nm _, by rw [hw.fr.ren]; rfl⟩, ⟨show 0 < 4 by decide, show 4 < 6 by decide, rfl, rfl, and2 (inv.s.nm (show 1 < 6 by decide)) (and2 (inv.t.nm (show 2 < 6 by decide)) (and2 (inv.q.nm (show 3 < 6 by decide)) rfl)), ?_⟩, ⟨show 0 < 3 by decide, show 3 < 6 by decide, rfl, inv.q.fr.1, inv.q.fr.nm _, by rw [inv.q.fr.ren]; rfl⟩, ⟨show 0 < 2 by decide, show 2 < 6 by decide, rfl, inv.t.fr.1, inv.t.fr.nm _, by rw [inv.t.fr.ren]; rfl⟩, ⟨show 0 < 1 by decide, show 1 < 6 by decide, rfl, inv.s.fr.1, inv.s.fr.nm _, by rw [inv.s.fr.ren]; rfl⟩, trivial⟩
    (show [5, 4, 3, 2, 1].Nodup by decide) (fun b _ c _ h => h) (show ∀ c ∈ [5, 4, 3, 2, 1], c ≠ 0 by decide) rfl ⟨.inr (.inr ⟨5, .inr (by simp [bsJ]), rfl⟩), .inr (.inr ⟨4, .inr (by simp [bsJ]), rfl⟩), .inr (.inr ⟨3, .inr (by simp [bsJ]), rfl⟩), .inr (.inr ⟨2, .inr (by simp [bsJ]), rfl⟩), .inr (.inr ⟨1, .inr (by simp [bsJ]), rfl⟩), .inr (.inr ⟨0, .inl rfl, rfl⟩), trivial⟩ rfl (show 6 ≤ 6 by decide) (by decide) (fun c hc h => .inl ?_) (fun b h1 h2 => by rw [only b h1 h2]; rfl) ?_ (namesTJ W hw h21 h2 h3 m i)
  · show some (AObj.cells false [st.mS, st.mT, st.q]) = some (.cells false [st.mS.ren _, st.mT.ren _, st.q.ren _])
    rw [inv.s.ren _ rfl, inv.t.ren _ rfl, inv.q.ren _ rfl]
  · show c ∈ [5, 4, 3, 2, 1]
    simp
    omega
  · rw [rensTJ W hw h21 h2 h3 _ rfl rfl rfl]
    exact hts
include hop
theorem j_loop {D : List Nat} {wA : AV} {oW : AObj} (hw : WA D wA oW) (hD : ∀ d ∈ D, d < n) (hl : D.length ≤ 1000) : ∀ (k i : Nat), D.length - i = k → i ≤ D.length → ∀ {S T : Option (List (Int × Int))} {Q : Option (List Int × Nat)} {st : S3} {x21 : AV}, Inv3 S T Q st → qlen Q ≤ i → X12 x21 →
    ∃ S' T' Q' st' x', Inv3 S' T' Q' st' ∧ X12 x' ∧
      ((judgeL f opN (D.drop i) (rep S T Q) = none ∧ Go.Mini.Good Try.prog [(0, row)] (canS (bsJ st oW) row 6 6) [5, 4, 3, 2, 1] (TJ lA wA x21 (.int .i64 (Int.ofNat 0)) (.bool false) D.length i) (.loop (loopAt Try.prog 21 0)) (.exit 0) (TJ lA wA x' (.int .i64 (Int.ofNat 0)) (.bool false) D.length D.length) (canS (bsJ st' oW) row 6 6) [5, 4, 3, 2, 1]) ∨
       (∃ d i', judgeL f opN (D.drop i) (rep S T Q) = some d ∧ Go.Mini.Good Try.prog [(0, row)] (canS (bsJ st oW) row 6 6) [5, 4, 3, 2, 1] (TJ lA wA x21 (.int .i64 (Int.ofNat 0)) (.bool false) D.length i) (.loop (loopAt Try.prog 21 0)) .ret (TJ lA wA x' (.int .i64 (Int.ofNat d)) (.bool false) D.length i') (canS (bsJ st' oW) row 6 6) [5, 4, 3, 2, 1])) := by
  intro k
  induction k with
  | zero =>
    intro i hk hi S T Q st x21 inv hq hx
    have : i = D.length := by omega
    subst this
    refine ⟨S, T, Q, st, x21, inv, hx, .inl ⟨by rw [List.drop_length]; rfl, Good.loop_stop (canJ0 W hw inv hx rfl rfl (runX_sound mixed none_sound (j_end lA wA x21 st.mS st.mT st.q .nilFunc .nilFunc .nilFunc D.length D.length 0 0 0 0 0 0 0 0 0 0 0 0 0 st.oS st.oT st.oQ oW .dead .dead .dead .dead row) ⟨ltq _ _ _ (by simp), trivial⟩) ?_) (by simp)⟩⟩
    unfold TJ
    repeat (first | exact rfl | refine ⟨_, _, rfl, ?_, ?_⟩ | exact .inr ⟨rfl, rfl⟩ | exact .inl ⟨rfl, rfl⟩ | exact .inl ⟨W.na.1.symm, W.na.2⟩ | exact .inl ⟨hw.na.1.symm, hw.na.2⟩ | exact see_same _)
  | succ k ih =>
    intro i hk hi S T Q st x21 inv hq hx
    have hlt : i < D.length := by omega
    obtain ⟨S1, T1, Q1, st1, i1, r1, q1, g⟩ := j_step W hop hw hD hl inv (x21 := x21) hlt hq
    have hdr : D.drop i = D[i] :: D.drop (i + 1) := List.drop_eq_getElem_cons hlt
    rcases g with ⟨hb, g⟩ | ⟨hb, g⟩
    · obtain ⟨S2, T2, Q2, st2, x2, i2, hx2, h⟩ := ih (i + 1) (by omega) (by omega) i1 q1 (.inr ⟨_, rfl⟩)
      have e : judgeL f opN (D.drop i) (rep S T Q) = judgeL f opN (D.drop (i + 1)) (rep S1 T1 Q1) := by
        rw [hdr, r1]
        show (if badF _ _ = true then _ else _) = _
        rw [hb]
        rfl
      refine ⟨S2, T2, Q2, st2, x2, i2, hx2, ?_⟩
      rw [e]
      rcases h with ⟨h1, h2⟩ | ⟨d, i', h1, h2⟩
      · exact .inl ⟨h1, Good.loop_next (show 0 < 6 by decide) (fun b o h hr => can_rw b o h hr) g h2⟩
      · exact .inr ⟨d, i', h1, Good.loop_next (show 0 < 6 by decide) (fun b o h hr => can_rw b o h hr) g h2⟩
    · refine ⟨S1, T1, Q1, st1, _, i1, .inr ⟨_, rfl⟩, .inr ⟨D[i], i, ?_, Good.loop_stop g (by simp)⟩⟩
      rw [hdr]
      show (if badF _ _ = true then _ else _) = _
      rw [hb]
      rfl
def stN : S3 := ⟨.nilMap, .nilMap, .nilSlice, phO, phO, phO⟩
omit W hop in
theorem invN : Inv3 none none none stN := ⟨And.intro rfl phFree, And.intro rfl phFree, And.intro rfl phFree⟩
def judgeV : Option Nat → AV
  | none => .tuple [.int .i64 (Int.negSucc 0), .bool true]
  | some d => .tuple [.int .i64 (Int.ofNat d), .bool false]
def tsJ (lA : AV) : List AV := [lA, undefA, .int .i64 (Int.ofNat 0), .bool false, .ptr 4 0, undefA, undefA, undefA, undefA, undefA, .ptr 4 0, undefA, undefA, undefA, undefA, undefA, undefA, undefA, undefA, undefA, undefA, undefA, undefA, undefA, undefA, undefA, undefA, undefA, undefA, undefA, undefA, undefA, undefA, undefA, undefA, undefA, undefA, undefA, undefA, undefA, undefA, undefA, undefA, undefA, undefA, undefA, undefA, undefA, undefA, undefA, undefA, undefA, undefA, undefA, undefA, undefA, undefA, undefA, undefA, undefA, undefA, undefA, undefA, undefA]
theorem judge_small : ∃ D' : List Nat, D'.Perm (livesTo f n) ∧ Srt (fun i => atF (f i)) D' ∧ ∃ s1, Sound Try.prog (.call 21 [lA] (canS [] row 1 1)) ⟨.ret, [judgeV (judgeL f opN D' ([], [], []))], s1⟩ := by
  obtain ⟨D', p1, p2, hwit⟩ := witC W
  refine ⟨D', p1, p2, ?_⟩
  have hsm := W.small
  have hlen : D'.length ≤ 1000 := by
    rw [p1.length_eq]
    exact Nat.le_trans (livesTo_len n) hsm
  have hD : ∀ d ∈ D', d < n := fun d hd => by
    have := (List.mem_filter.1 (p1.mem_iff.1 hd)).1
    simpa using this
  have hw := wa_of D'
  obtain ⟨S', T', Q', st', x', inv, hx, h⟩ := j_loop W hop hw hD hlen D'.length 0 rfl (Nat.zero_le _) (x21 := undefA) invN (Nat.zero_le _) (.inl rfl)
  -- ahead of the loop
  have hwit' := hwit ⟨⟨[(4, .cells false [.nilMap, .nilMap, .nilSlice]), (3, phO), (2, phO), (1, phO), (0, .cells true row)], 5, none, []⟩, 5⟩ true 0 rfl
  have elA : (lA.ren fun _ => 0) = lA := W.xr _ rfl
  rw [elA] at hwit'
  have head : Sound Try.prog (.code jc2 (tsJ lA) ⟨⟨[(4, .cells false [.nilMap, .nilMap, .nilSlice]), (3, phO), (2, phO), (1, phO), (0, .cells true row)], 5, none, []⟩, 5⟩) ⟨.normal, TJ lA (wv D' 5) undefA (.int .i64 (Int.ofNat 0)) (.bool false) D'.length 0, canS (bsJ stN (oWit D')) row 6 6⟩ :=
    Sound.sees (runX_sound mixed none_sound (jp2 lA (wv D' 5) .nilFunc .nilFunc .nilFunc .nilFunc .nilFunc .nilFunc .nilFunc D'.length 0 0 0 0 0 0 0 0 0 0 0 0 0 0 phO phO phO (oWit D') .dead .dead .dead .dead row) ⟨hwit', len57 hw _, trivial⟩) (by
      unfold TJ
      repeat (first | exact rfl | refine ⟨_, _, rfl, ?_, ?_⟩ | exact .inr ⟨rfl, rfl⟩ | exact .inl ⟨rfl, rfl⟩ | exact .inl ⟨W.na.1.symm, W.na.2⟩ | exact .inl ⟨hw.na.1.symm, hw.na.2⟩ | exact see_same _))
  have whole : ∀ {ts : List AV} {s' : AS} {a b : AV}, tget ts 2 = a → tget ts 3 = b → Sound Try.prog (.code (.seq (.seq jc2 (.block 0 (.loop (loopAt Try.prog 21 0)))) jsuf) (tsJ lA) ⟨⟨[(4, .cells false [.nilMap, .nilMap, .nilSlice]), (3, phO), (2, phO), (1, phO), (0, .cells true row)], 5, none, []⟩, 5⟩) ⟨.ret, ts, s'⟩ → ∃ s1, Sound Try.prog (.call 21 [lA] (canS [] row 1 1)) ⟨.ret, [.tuple [a, b]], s1⟩ := by
    intro ts s' a b ha hb hs
    have k1 : Sound Try.prog (.code j0 (lA :: List.replicate 63 undefA) ⟨⟨[(3, phO), (2, phO), (1, phO), (0, .cells true row)], 4, none, []⟩, 4⟩) ⟨.ret, ts, s'⟩ := by
      rw [j0_eq]
      exact seq_next (runX_sound mixed none_sound (jp0 lA (wv D' 5) .nilFunc .nilFunc .nilFunc .nilFunc .nilFunc .nilFunc .nilFunc D'.length 0 0 0 0 0 0 0 0 0 0 0 0 0 0 phO phO phO (oWit D') .dead .dead .dead .dead row) trivial) (seq_next (runX_sound mixed none_sound (jp1 lA (wv D' 5) .nilFunc .nilFunc .nilFunc .nilFunc .nilFunc .nilFunc .nilFunc D'.length 0 0 0 0 0 0 0 0 0 0 0 0 0 0 phO phO phO (oWit D') .dead .dead .dead .dead row) trivial) hs)
    have hr : Try.f21.results.toList = [.tmp 2, .tmp 3] := by kernel_rfl
    exact ⟨s', Sound.phantom phO (Sound.phantom phO (Sound.phantom phO (call_whole (fn := Try.f21) (c := j0) (vs := [a, b]) Try.func21 (by kernel_rfl) k1 (.inr rfl) (by
      rw [hr]
      show some [tget ts 2, tget ts 3] = _
      rw [ha, hb]))))⟩
  rcases h with ⟨h1, g⟩ | ⟨d, i', h1, g⟩
  · have h1 : judgeL f opN D' ([], [], []) = none := h1
    rw [h1]
    obtain ⟨π, ts1, s1, s', k1, k2, _⟩ := Good.finish (Good.block_exit g) (Sound.sees (ts2 := TJ lA (wv D' 5) x' (.int .i64 (Int.negSucc 0)) (.bool true) D'.length D'.length) (runX_sound mixed none_sound (j_suf lA (wv D' 5) x' st'.mS st'.mT st'.q .nilFunc .nilFunc .nilFunc D'.length D'.length 0 0 0 0 0 0 0 0 0 0 0 0 0 st'.oS st'.oT st'.oQ (oWit D') .dead .dead .dead .dead row) trivial) (by
      unfold TJ
      repeat (first | exact rfl | refine ⟨_, _, rfl, ?_, ?_⟩ | exact .inr ⟨rfl, rfl⟩ | exact .inl ⟨rfl, rfl⟩ | exact see_same _))) (footJ W hw inv) (namesTJ W hw hx rfl rfl _ _)
    exact whole rfl rfl (seq_next (seq_next head k1) k2)
  · have h1 : judgeL f opN D' ([], [], []) = some d := h1
    rw [h1]
    obtain ⟨s1, π1, S1, _, _⟩ := g
    exact whole rfl rfl (seq_stop (seq_next head (block_past S1 (by simp))) (by simp))
end
end Go.Proofs.Ythooafgfpnedhaa.specsJudge
