/- The loop of specs.Witness. Conditions: those that each theorem names, and no others. -/
import Derived.Test.YthooafgfpnedhaaJud14
import Derived.Test.YthooafgfpnedhaaMini3
namespace Go.Proofs.Ythooafgfpnedhaa.specsJudge
open Go Go.Mini
/-! ### specs.Witness -/
theorem same_qS (x : Int) : (Qst.val (some (AV.bool (x != x))) (AV.bool false)).ok Try.prog := by simp [Qst.ok]
abbrev Call9 : Type := Int × Int × Int × Int × Int × Int × Int × Int × Int
def atF (z : Call9) : Int := z.2.2.2.2.2.2.2.1
def liveF (z : Call9) : Bool := atF z != Int.negSucc 0
/-- Rows of calls in block 0. -/
structure RwC (lA : AV) (n : Nat) (row : List AV) (f : Nat → Call9) : Prop where
  len : ∀ s, lenA Try.prog s 50 lA = some (.int .i64 (Int.ofNat n))
  at_ : ∀ i, i < n → ∃ a, indexAddrA Try.prog 50 lA (.int .i64 (Int.ofNat i)) = some (.ptr 0 a) ∧ ∀ (s : AS) (ro : Bool), s.get 0 = some (.cells ro row) → loadA Try.prog s 56 (.ptr 0 a) = some (.agg (callC (f i))) ∧ loadA Try.prog s 3 (.ptr 0 (a + 7)) = some (.int .i64 (atF (f i)))
  small : n ≤ 1000
  nm : namess (fun _ => false) row = true
  kind : (∃ c, lA = .slice 0 0 n c) ∨ lA = .osl 0 0 n 9
section
variable {lA : AV} {n : Nat} {row : List AV} {f : Nat → Call9} (W : RwC lA n row f)
include W
theorem RwC.xr (π : Nat → Nat) (h : π 0 = 0) : lA.ren π = lA := by
  rcases W.kind with ⟨c, rfl⟩ | rfl <;> simp [AV.ren, h]
theorem RwC.xn {m : Nat} (h : 0 < m) : lA.names (fun b => Nat.blt b m) = true := by
  rcases W.kind with ⟨c, rfl⟩ | rfl <;> simpa [AV.names] using h
theorem RwC.na : junkOf lA = uu ∧ junkable lA = true := by
  rcases W.kind with ⟨c, rfl⟩ | rfl <;> exact ⟨rfl, rfl⟩
theorem cmp_of : CmpS (fun i => atF (f i)) n (.cells false [lA]) (.cells true row) := by
  intro u v hu hv
  obtain ⟨pa, i1, l1⟩ := W.at_ u hu
  obtain ⟨pb, i2, l2⟩ := W.at_ v hv
  have go : ∀ c : Int, (∀ D : List AV, Sound Try.prog (.call 37 [.int .i64 (Int.ofNat u), .int .i64 (Int.ofNat v), .ptr 1 0] ⟨⟨[(2, .cells false D), (1, .cells false [lA]), (0, .cells true row)], 3, none, []⟩, 3⟩) ⟨.ret, [.int .i64 c], ⟨⟨[(2, .cells false D), (1, .cells false [lA]), (0, .cells true row)], 3, none, []⟩, 3⟩⟩) →
      ∀ (D : List AV) (W : List Nat), Sound Try.prog (.call 37 [.int .i64 (Int.ofNat u), .int .i64 (Int.ofNat v), .ptr 1 0] ⟨⟨[(2, .cells false D), (1, .cells false [lA]), (0, .cells true row)], 3, none, W⟩, 3⟩) ⟨.ret, [.int .i64 c], ⟨⟨[(2, .cells false D), (1, .cells false [lA]), (0, .cells true row)], 3, none, W⟩, 3⟩⟩ :=
    fun c h D W => Sound.wrCall (l := []) (h D) .ret none none W
  rcases Int.lt_trichotomy (atF (f u)) (atF (f v)) with h | h | h
  · exact ⟨Int.negSucc 0, ⟨fun _ => h, fun _ => by decide⟩, go _ fun D => runX_sound mixed none_sound (cm_lt pa pb _ _ lA (.cells false D) (.cells true row) (.int .i64 (Int.ofNat u)) (.int .i64 (Int.ofNat v))) ⟨i1, (l1 _ _ rfl).2, i2, (l2 _ _ rfl).2, same_qS _, same_qS _, congrArg (fun z => some (AV.bool z)) (decide_eq_true h), trivial⟩⟩
  · exact ⟨Int.ofNat 0, ⟨fun h' => absurd h' (by decide), fun h' => by show Int.ofNat 0 < 0; have : atF (f u) < atF (f v) := h'; omega⟩, go _ fun D => runX_sound mixed none_sound (cm_eq pa pb _ _ lA (.cells false D) (.cells true row) (.int .i64 (Int.ofNat u)) (.int .i64 (Int.ofNat v))) ⟨i1, (l1 _ _ rfl).2, i2, (l2 _ _ rfl).2, same_qS _, same_qS _, congrArg (fun z => some (AV.bool z)) (decide_eq_false (by omega)), congrArg (fun z => some (AV.bool z)) (decide_eq_false (by omega)), trivial⟩⟩
  · exact ⟨Int.ofNat 1, ⟨fun h' => absurd h' (by decide), fun h' => by show Int.ofNat 1 < 0; have : atF (f u) < atF (f v) := h'; omega⟩, go _ fun D => runX_sound mixed none_sound (cm_gt pa pb _ _ lA (.cells false D) (.cells true row) (.int .i64 (Int.ofNat u)) (.int .i64 (Int.ofNat v))) ⟨i1, (l1 _ _ rfl).2, i2, (l2 _ _ rfl).2, same_qS _, same_qS _, congrArg (fun z => some (AV.bool z)) (decide_eq_false (by omega)), congrArg (fun z => some (AV.bool z)) (decide_eq_true h), trivial⟩⟩
end
def bsW (oD : AObj) (lA : AV) : List (Nat × AObj) := [(2, oD), (1, .cells false [lA])]
def NO (L : List Nat) (ov : AV) (oD : AObj) : Prop := (L = [] ∧ ov = .nilSlice ∧ Free oD) ∨ (L ≠ [] ∧ ov = .osl 2 0 L.length 1 ∧ oD = .cells false (nc L))
theorem freeRow (L : List Nat) : Free (.cells false (nc L)) := ⟨rfl, nc_names _ _⟩
theorem NO.free {L : List Nat} {ov : AV} {oD : AObj} (h : NO L ov oD) : Free oD := by
  rcases h with ⟨_, _, h⟩ | ⟨_, _, rfl⟩
  · exact h
  · exact freeRow L
theorem NO.nm {L : List Nat} {ov : AV} {oD : AObj} (h : NO L ov oD) : ov.names (fun b => Nat.blt b 3) = true := by
  rcases h with ⟨_, rfl, _⟩ | ⟨_, rfl, _⟩ <;> rfl
theorem NO.na {L : List Nat} {ov : AV} {oD : AObj} (h : NO L ov oD) : junkOf ov = uu ∧ junkable ov = true := by
  rcases h with ⟨_, rfl, _⟩ | ⟨_, rfl, _⟩ <;> exact ⟨rfl, rfl⟩
theorem NO.ren {L : List Nat} {ov : AV} {oD : AObj} (h : NO L ov oD) (π : Nat → Nat) (hp : π 2 = 2) : ov.ren π = ov := by
  rcases h with ⟨_, rfl, _⟩ | ⟨_, rfl, _⟩ <;> simp [AV.ren, hp]
def X12 (x : AV) : Prop := x = undefA ∨ ∃ z : Call9, x = .agg (callC z)
theorem X12.ren {x : AV} (h : X12 x) (π : Nat → Nat) : x.ren π = x := by
  rcases h with rfl | ⟨z, rfl⟩ <;> rfl
theorem X12.nm {x : AV} (h : X12 x) (p : Nat → Bool) : x.names p = true := by
  rcases h with rfl | ⟨z, rfl⟩ <;> rfl
theorem rensW (π : Nat → Nat) : ∀ n, rens π (List.replicate n uu) = List.replicate n uu
  | 0 => rfl
  | n + 1 => by
    show uu.ren π :: rens π (List.replicate n uu) = uu :: List.replicate n uu
    rw [rensW π n]
    rfl
theorem t50 : Try.prog.underlying 50 = some (.slice 56) := by kernel_rfl
theorem s56 : sizeA Try.prog 56 = some 9 := by kernel_rfl
theorem a56 : isAggA Try.prog 56 = some true := by kernel_rfl
theorem app_n {s : AS} {b b2 c2 : Nat} {ro : Bool} {L : List Nat} {i : Nat} (hb : s.get b = some (.cells false (nc L))) (h2 : s.get b2 = some (.cells ro [.int .i64 (Int.ofNat i)])) (hk : L.length < 16777216) :
    appendA Try.prog s 57 57 (.osl b 0 L.length 1) (.slice b2 0 1 c2) = some (.osl s.nx 0 (L.length + 1) 1, (s.set b .dead).push (.cells false (nc (L ++ [i])))) := by
  have := app_osl (P := Try.prog) (t := 57) (t2 := 57) (n := 1) (c2 := c2) (k := L.length) (by kernel_rfl) hb (by simp [nc]) (by simp [nc, AV.one]) h2 rfl rfl hk
  rw [this]
  simp [nc]
section
variable {lA : AV} {n : Nat} {row : List AV} {f : Nat → Call9} (W : RwC lA n row f)
include W
theorem canW {oD : AObj} {L : List Nat} {ov x12 : AV} {C0 : AS} {foot0 : List Nat} {T ts1 : List AV} {c : Code} {e : AExit} {i : Nat} {bs1 : List (Nat × AObj)} {len1 nx1 : Nat} {esc1 : Option Nat} {wr1 : List Nat} (hL : NO L ov oD) (h12 : X12 x12)
    (hs : Sound Try.prog (.code c T C0) ⟨e, ts1, ⟨⟨bs1, len1, esc1, wr1⟩, nx1⟩⟩) (π : Nat → Nat) (h0 : π 0 = 0) (hne1 : π 1 ≠ 0) (hne2 : π 2 ≠ 0) (hne : π 1 ≠ π 2) (g2 : getB bs1 (π 2) = some oD) (g1 : getB bs1 (π 1) = some (.cells false [lA])) (g0 : getB bs1 0 = some (.cells true row))
    (hcov : eachX (fun b o => o = .dead ∨ Free o ∨ ∃ c, (c = 0 ∨ c ∈ [2, 1]) ∧ π c = b) bs1) (hkeys : (bs1.all fun y => Nat.blt y.1 nx1) = true) (hnx : C0.nx ≤ nx1) (hst : ∀ b, b < C0.nx → b ∉ foot0 → getB bs1 b = C0.get b)
    (hts : seesT (fun b => b) (fun _ => true) (rens π (TW lA ov x12 n i)) ts1) :
    Go.Mini.Good Try.prog [(0, row)] C0 foot0 T c e (TW lA ov x12 n i) (canS (bsW oD lA) row 3 3) [2, 1] := by
  refine Good.can (bsC := bsW oD lA) (nxC := 3) hs noG π h0 W.nm ⟨⟨show 0 < 2 by decide, show 2 < 3 by decide, rfl, hL.free.1, hL.free.nm _, by rw [hL.free.ren]; exact g2⟩, ⟨show 0 < 1 by decide, show 1 < 3 by decide, rfl, rfl, and2 (W.xn (by decide)) rfl, by
      show getB bs1 (π 1) = some (.cells false [lA.ren π])
      rw [W.xr π h0]
      exact g1⟩, trivial⟩ (show [2, 1].Nodup by decide) (fun b hb c hc he => ?_) (fun c hc => ?_) g0 hcov hkeys hnx (by decide) (fun c hc h => ?_) hst hts ?_
  · have hb : b = 2 ∨ b = 1 := by simpa [bsW] using hb
    have hc : c = 2 ∨ c = 1 := by simpa [bsW] using hc
    rcases hb with rfl | rfl <;> rcases hc with rfl | rfl
    · rfl
    · exact absurd he.symm hne
    · exact absurd he hne
    · rfl
  · have hc : c = 2 ∨ c = 1 := by simpa [bsW] using hc
    rcases hc with rfl | rfl
    · exact hne2
    · exact hne1
  · refine .inl ?_
    show c ∈ [2, 1]
    simp
    omega
  · show (lA.names _ && (true && (true && (ov.names _ && (true && (true && (lA.names _ && (true && (true && (true && (true && (true && (x12.names _ && namess _ (List.replicate 13 uu)))))))))))))) = true
    rw [W.xn (by decide), hL.nm, h12.nm]
    rfl
theorem rensTW (π : Nat → Nat) (h0 : π 0 = 0) {ov x12 : AV} (h12 : X12 x12) (i : Nat) : rens π (TW lA ov x12 n i) = [lA, .ptr (π 1) 0, uu, ov.ren π, uu, uu, lA, .int .i64 (Int.ofNat n), .int .i64 (Int.ofNat i), uu, uu, uu, x12] ++ List.replicate 13 uu := by
  show [lA.ren π, .ptr (π 1) 0, uu, ov.ren π, uu, uu, lA.ren π, .int .i64 (Int.ofNat n), .int .i64 (Int.ofNat i), uu, uu, uu, x12.ren π] ++ rens π (List.replicate 13 uu) = _
  rw [W.xr π h0, h12.ren, rensW]
theorem w_step {i : Nat} (hi : i < n) {L : List Nat} {ov x12 : AV} {oD : AObj} (hL : NO L ov oD) (_ : X12 x12) (hl : L.length ≤ i) : ∃ ov' oD', NO (if liveF (f i) then L ++ [i] else L) ov' oD' ∧
    Go.Mini.Good Try.prog [(0, row)] (canS (bsW oD lA) row 3 3) [2, 1] (TW lA ov x12 n i) (loopAt Try.prog 19 0) .normal (TW lA ov' (.agg (callC (f i))) n (i + 1)) (canS (bsW oD' lA) row 3 3) [2, 1] := by
  obtain ⟨a, hidx, hld⟩ := W.at_ i hi
  have hsm := W.small
  have hx : X12 (.agg (callC (f i))) := .inr ⟨_, rfl⟩
  have only : ∀ b, b < 3 → b ∉ [2, 1] → b = 0 := fun b h1 h2 => by simp at h2; omega
  cases hlv : liveF (f i) with
  | false =>
    refine ⟨ov, oD, by simpa using hL, ?_⟩
    have run := runX_sound mixed none_sound (w_skip lA ov x12 n i a 0 _ _ _ _ _ _ _ _ _ oD .dead row) ⟨ltq _ _ _ (by simpa using hi), hidx, (hld _ _ rfl).1, congrArg (fun z => some (AV.bool z)) hlv, wq _ rfl (by omega), trivial⟩
    refine canW W hL hx run (fun b => b) rfl (by decide) (by decide) (by decide) rfl rfl rfl ⟨.inr (.inl ⟨rfl, rfl⟩), .inr (.inr ⟨2, by simp, rfl⟩), .inr (.inr ⟨1, by simp, rfl⟩), .inr (.inr ⟨0, by simp, rfl⟩), trivial⟩ rfl (show 3 ≤ 4 by decide) (fun b h1 h2 => by rw [only b h1 h2]; rfl) ?_
    rw [rensTW W _ rfl hx, hL.ren _ rfl]
    repeat (first | exact rfl | refine ⟨_, _, rfl, ?_, ?_⟩ | exact .inr ⟨rfl, rfl⟩ | exact .inl ⟨rfl, rfl⟩ | exact .inl ⟨W.na.1.symm, W.na.2⟩ | exact .inl ⟨hL.na.1.symm, hL.na.2⟩ | exact see_same _)
  | true =>
    rcases hL with ⟨rfl, rfl, hf⟩ | ⟨hne, rfl, rfl⟩
    · have hL' : NO ([] ++ [i]) (.osl 2 0 1 1) (.cells false (nc [i])) := .inr ⟨by simp, rfl, rfl⟩
      refine ⟨_, _, by simpa using hL', ?_⟩
      have run := runX_sound mixed none_sound (w_nil lA .nilSlice x12 n i a 0 _ _ _ _ _ _ _ _ _ oD .dead row) ⟨ltq _ _ _ (by simpa using hi), hidx, (hld _ _ rfl).1, congrArg (fun z => some (AV.bool z)) hlv, wq _ rfl (by omega), trivial⟩
      refine canW W hL' hx run (fun b => if b = 2 then 5 else b) rfl (by decide) (by decide) (by decide) rfl rfl rfl ⟨.inr (.inr ⟨2, by simp, rfl⟩), .inr (.inl ⟨rfl, rfl⟩), .inr (.inl ⟨rfl, rfl⟩), .inr (.inl hf), .inr (.inr ⟨1, by simp, rfl⟩), .inr (.inr ⟨0, by simp, rfl⟩), trivial⟩ rfl (show 3 ≤ 6 by decide) (fun b h1 h2 => by rw [only b h1 h2]; rfl) ?_
      rw [rensTW W _ rfl hx]
      repeat (first | exact rfl | refine ⟨_, _, rfl, ?_, ?_⟩ | exact .inr ⟨rfl, rfl⟩ | exact .inl ⟨rfl, rfl⟩ | exact .inl ⟨W.na.1.symm, W.na.2⟩ | exact see_same _)
    · have hL' : NO (L ++ [i]) (.osl 2 0 (L.length + 1) 1) (.cells false (nc (L ++ [i]))) := .inr ⟨by simp, by simp, rfl⟩
      refine ⟨_, _, by simpa using hL', ?_⟩
      have run := runX_sound mixed none_sound (w_app lA .nilSlice x12 n i a L.length _ _ _ _ _ _ _ _ _ (.cells false (nc L)) (.cells false (nc (L ++ [i]))) row) ⟨ltq _ _ _ (by simpa using hi), hidx, (hld _ _ rfl).1, congrArg (fun z => some (AV.bool z)) hlv, app_n rfl rfl (by omega), wq _ rfl (by omega), trivial⟩
      refine canW W hL' hx run (fun b => if b = 2 then 5 else b) rfl (by decide) (by decide) (by decide) rfl rfl rfl ⟨.inr (.inr ⟨2, by simp, rfl⟩), .inr (.inl ⟨rfl, rfl⟩), .inr (.inl ⟨rfl, rfl⟩), .inl rfl, .inr (.inr ⟨1, by simp, rfl⟩), .inr (.inr ⟨0, by simp, rfl⟩), trivial⟩ rfl (show 3 ≤ 6 by decide) (fun b h1 h2 => by rw [only b h1 h2]; rfl) ?_
      rw [rensTW W _ rfl hx]
      repeat (first | exact rfl | refine ⟨_, _, rfl, ?_, ?_⟩ | exact .inr ⟨rfl, rfl⟩ | exact .inl ⟨rfl, rfl⟩ | exact .inl ⟨W.na.1.symm, W.na.2⟩ | exact see_same _)
/-- The calls that have a point. -/
def livesTo (f : Nat → Call9) (i : Nat) : List Nat := (List.range i).filter fun j => liveF (f j)
omit W in
theorem livesTo_succ (i : Nat) : livesTo f (i + 1) = if liveF (f i) then livesTo f i ++ [i] else livesTo f i := by
  unfold livesTo
  rw [List.range_succ, List.filter_append]
  cases h : liveF (f i) <;> simp [h]
omit W in
theorem livesTo_len (i : Nat) : (livesTo f i).length ≤ i := by
  have := List.length_filter_le (fun j => liveF (f j)) (List.range i)
  simpa [livesTo] using this
theorem w_loop : ∀ (m i : Nat), n - i = m → i ≤ n → ∀ {ov x12 : AV} {oD : AObj}, NO (livesTo f i) ov oD → X12 x12 → ∃ ov' oD' x', NO (livesTo f n) ov' oD' ∧ X12 x' ∧
    Go.Mini.Good Try.prog [(0, row)] (canS (bsW oD lA) row 3 3) [2, 1] (TW lA ov x12 n i) (.loop (loopAt Try.prog 19 0)) (.exit 0) (TW lA ov' x' n n) (canS (bsW oD' lA) row 3 3) [2, 1] := by
  intro m
  induction m with
  | zero =>
    intro i hm hi ov x12 oD hL h12
    have : i = n := by omega
    subst this
    refine ⟨ov, oD, x12, hL, h12, Good.loop_stop ?_ (by simp)⟩
    have only : ∀ b, b < 3 → b ∉ [2, 1] → b = 0 := fun b h1 h2 => by simp at h2; omega
    have run := runX_sound mixed none_sound (w_end lA ov x12 i i 0 0 0 0 0 0 0 0 0 0 0 oD .dead row) ⟨ltq _ _ _ (by simp), trivial⟩
    refine canW W hL h12 run (fun b => b) rfl (by decide) (by decide) (by decide) rfl rfl rfl ⟨.inr (.inr ⟨2, by simp, rfl⟩), .inr (.inr ⟨1, by simp, rfl⟩), .inr (.inr ⟨0, by simp, rfl⟩), trivial⟩ rfl (show 3 ≤ 3 by decide) (fun b h1 h2 => by rw [only b h1 h2]; rfl) ?_
    rw [rensTW W _ rfl h12, hL.ren _ rfl]
    repeat (first | exact rfl | refine ⟨_, _, rfl, ?_, ?_⟩ | exact .inr ⟨rfl, rfl⟩ | exact .inl ⟨rfl, rfl⟩ | exact .inl ⟨W.na.1.symm, W.na.2⟩ | exact .inl ⟨hL.na.1.symm, hL.na.2⟩ | exact see_same _)
  | succ m ih =>
    intro i hm hi ov x12 oD hL h12
    obtain ⟨ov1, oD1, h1, g1⟩ := w_step W (i := i) (by omega) hL h12 (livesTo_len i)
    rw [← livesTo_succ] at h1
    obtain ⟨ov2, oD2, x2, h2, k2, g2⟩ := ih (i + 1) (by omega) (by omega) h1 (.inr ⟨_, rfl⟩)
    exact ⟨ov2, oD2, x2, h2, k2, Good.loop_next (show 0 < 3 by decide) (fun b o h hr => can_rw b o h hr) g1 g2⟩
end
end Go.Proofs.Ythooafgfpnedhaa.specsJudge
