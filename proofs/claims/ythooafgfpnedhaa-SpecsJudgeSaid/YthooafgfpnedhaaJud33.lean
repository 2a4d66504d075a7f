/- One step of the Witness of the document. Conditions: those that each theorem names, and no others. -/
import Derived.Test.YthooafgfpnedhaaJud32
namespace Go.Proofs.Ythooafgfpnedhaa.specsJudge
open Go Go.Mini
theorem r57 : rowT Try.prog 57 57 1 = true := by kernel_rfl
theorem nc_rows (L : List Nat) : nc L = rowsOf (fun d => [AV.int .i64 (Int.ofNat d)]) L := by
  unfold nc rowsOf
  induction L with
  | nil => rfl
  | cons d L ih => rw [List.map_cons, List.map_cons, List.flatten_cons, ← ih]; rfl
theorem nc_one (L : List Nat) : (nc L).all AV.one = true := by simp [nc, AV.one]
def NOd (L : List Nat) (ov : AV) (oD : AObj) : Prop := (L = [] ∧ ov = .nilSlice ∧ Free oD) ∨ (L ≠ [] ∧ ov = .osl 1 0 L.length 1 ∧ oD = .cells false (nc L))
section
variable {L : List Nat} {ov : AV} {oD : AObj} (h : NOd L ov oD)
include h
theorem NOd.free : Free oD := by
  rcases h with ⟨_, _, h⟩ | ⟨_, _, rfl⟩
  · exact h
  · exact freeRow L
theorem NOd.nm : ov.names (fun b => Nat.blt b 2) = true := by
  rcases h with ⟨_, rfl, _⟩ | ⟨_, rfl, _⟩ <;> rfl
theorem NOd.na : junkOf ov = uu ∧ junkable ov = true := by
  rcases h with ⟨_, rfl, _⟩ | ⟨_, rfl, _⟩ <;> exact ⟨rfl, rfl⟩
theorem NOd.ren (π : Nat → Nat) (hp : π 1 = 1) : ov.ren π = ov := by
  rcases h with ⟨_, rfl, _⟩ | ⟨_, rfl, _⟩ <;> simp [AV.ren, hp]
end
theorem rensTD {n : Nat} (π : Nat → Nat) (h0 : π 0 = 0) (ov : AV) (i : Nat) : rens π (TD (.osl 0 0 n 9) ov i) = [.osl 0 0 n 9, uu, .nilSlice, ov.ren π, .int .i64 (Int.ofNat i)] ++ List.replicate 48 uu := by
  show [.osl (π 0) 0 n 9, uu, .nilSlice, ov.ren π, .int .i64 (Int.ofNat i)] ++ rens π (List.replicate 48 uu) = _
  rw [h0, rensW]
section
variable {A : List Call9}
theorem canD {oD : AObj} {L : List Nat} {ov : AV} {C0 : AS} {foot0 : List Nat} {T ts1 : List AV} {c : Code} {e : AExit} {n i : Nat} {bs1 : List (Nat × AObj)} {len1 nx1 : Nat} {esc1 : Option Nat} {wr1 : List Nat} (hL : NOd L ov oD)
    (hs : Sound Try.prog (.code c T C0) ⟨e, ts1, ⟨⟨bs1, len1, esc1, wr1⟩, nx1⟩⟩) (π : Nat → Nat) (h0 : π 0 = 0) (hne1 : π 1 ≠ 0) (g1 : getB bs1 (π 1) = some oD) (g0 : getB bs1 0 = some (.cells true (co A)))
    (hcov : eachX (fun b o => o = .dead ∨ Free o ∨ ∃ c, (c = 0 ∨ c ∈ [1]) ∧ π c = b) bs1) (hkeys : (bs1.all fun y => Nat.blt y.1 nx1) = true) (hnx : C0.nx ≤ nx1) (hst : ∀ b, b < C0.nx → b ∉ foot0 → getB bs1 b = C0.get b)
    (hts : seesT (fun b => b) (fun _ => true) (rens π (TD (.osl 0 0 n 9) ov i)) ts1) :
    Go.Mini.Good Try.prog [(0, co A)] C0 foot0 T c e (TD (.osl 0 0 n 9) ov i) (canS [(1, oD)] (co A) 2 2) [1] := by
  refine Good.can (bsC := [(1, oD)]) (nxC := 2) hs noG π h0 (names_co _ _) ⟨⟨show 0 < 1 by decide, show 1 < 2 by decide, rfl, hL.free.1, hL.free.nm _, by rw [hL.free.ren]; exact g1⟩, trivial⟩ (show [1].Nodup by decide) (fun b hb c hc _ => ?_) (fun c hc => ?_) g0 hcov hkeys hnx (by decide) (fun c hc h => ?_) hst hts ?_
  · have hb : b = 1 := by simpa using hb
    have hc : c = 1 := by simpa using hc
    rw [hb, hc]
  · have hc : c = 1 := by simpa using hc
    rw [hc]
    exact hne1
  · refine .inl ?_
    show c ∈ [1]
    simp
    omega
  · show (true && (true && (true && (ov.names _ && (true && namess _ (List.replicate 48 uu)))))) = true
    rw [hL.nm]
    rfl
theorem y_step (hA : A.length ≤ 1000) {i : Nat} (hi : i < A.length) {L : List Nat} {ov : AV} {oD : AObj} (hL : NOd L ov oD) (hl : L.length ≤ i) (hb : ∀ d ∈ L, d < i) (hsrt : Srt (atA A) L) : ∃ L' ov' oD', NOd L' ov' oD' ∧ Srt (atA A) L' ∧ L'.Perm (if liveF (fA A i) then L ++ [i] else L) ∧
    Go.Mini.Good Try.prog [(0, co A)] (canS [(1, oD)] (co A) 2 2) [1] (TD (.osl 0 0 A.length 9) ov i) (loopAt Try.prog 20 0) .normal (TD (.osl 0 0 A.length 9) ov' (i + 1)) (canS [(1, oD')] (co A) 2 2) [1] := by
  have only : ∀ b, b < 2 → b ∉ [1] → b = 0 := fun b h1 h2 => by simp at h2; omega
  have q1 := ltq i A.length true (by simpa using hi)
  have q2 : (Qst.idx 51 (.osl 0 0 A.length 9) (.int .i64 (Int.ofNat i)) (.ptr 0 (i * 9))).ok Try.prog := idx51 hi
  have q3 : ∀ s : AS, s.get 0 = some (.cells true (co A)) → (Qst.ld 3 s (.ptr 0 (i * 9 + 7)) (.int .i64 (atA A i))).ok Try.prog := fun s h => ld_at hi h
  have qn := wq (n := i + 1) (Int.ofNat (i + 1)) rfl (by omega)
  cases hlv : liveF (fA A i) with
  | false =>
    have q4 : (Qst.val (some (AV.bool (atA A i == Int.negSucc 0))) (AV.bool true)).ok Try.prog := bq (by
      have : (atA A i != Int.negSucc 0) = false := hlv
      simpa using this)
    refine ⟨L, ov, oD, hL, hsrt, List.Perm.refl _, ?_⟩
    have run := runX_sound mixed none_sound (y_skip (.osl 0 0 A.length 9) ov A.length i 0 0 (i * 9) 0 0 0 0 (atA A i) 0 oD .dead .dead .dead (co A)) ⟨ln_51 _ _ _, q1, q2, q3 _ rfl, q4, qn, trivial⟩
    refine canD hL run (fun b => b) rfl (by decide) rfl rfl ⟨.inr (.inr ⟨1, by simp, rfl⟩), .inr (.inr ⟨0, by simp, rfl⟩), trivial⟩ rfl (show 2 ≤ 2 by decide) (fun b h1 h2 => by rw [only b h1 h2]; rfl) ?_
    rw [rensTD _ rfl, hL.ren _ rfl]
    repeat (first | exact rfl | refine ⟨_, _, rfl, ?_, ?_⟩ | exact .inr ⟨rfl, rfl⟩ | exact .inl ⟨rfl, rfl⟩ | exact .inl ⟨hL.na.1.symm, hL.na.2⟩ | exact see_same _)
  | true =>
    have q4 : (Qst.val (some (AV.bool (atA A i == Int.negSucc 0))) (AV.bool false)).ok Try.prog := bq (by
      have : (atA A i != Int.negSucc 0) = true := hlv
      simpa using this)
    rcases hL with ⟨rfl, rfl, hf⟩ | ⟨hne, rfl, rfl⟩
    · have hL' : NOd [i] (.osl 1 0 1 1) (.cells false (nc [i])) := .inr ⟨by simp, rfl, rfl⟩
      refine ⟨[i], _, _, hL', srt_one _, List.Perm.refl _, ?_⟩
      have inn : Sound Try.prog (.code (.loop (loopAt Try.prog 20 1)) (TDi (.osl 0 0 A.length 9) .nilSlice i 0) ⟨⟨[(1, oD), (0, .cells true (co A))], 2, none, []⟩, 2⟩) ⟨.exit 2, TDi (.osl 0 0 A.length 9) .nilSlice i 0, ⟨⟨[(1, oD), (0, .cells true (co A))], 2, none, []⟩, 2⟩⟩ := by
        refine SoundL.stop (L0 := []) (SoundL.plain (runX_sound mixed none_sound (yi_n (.osl 0 0 A.length 9) .nilFunc 0 i 0 0 0 0 0 0 0 0 0 oD .dead .dead .dead (co A)) ⟨bq (by simp), trivial⟩) ?_) (by simp) none none []
        unfold TDi
        repeat (first | exact rfl | refine ⟨_, _, rfl, ?_, ?_⟩ | exact .inr ⟨rfl, rfl⟩ | exact .inl ⟨rfl, rfl⟩ | exact see_same _)
      have run := runX_sound mixed none_sound (y_nil (.osl 0 0 A.length 9) .nilSlice A.length i 0 0 (i * 9) 0 0 0 0 (atA A i) 0 oD .dead .dead .dead (co A)) ⟨ln_51 _ _ _, q1, q2, q3 _ rfl, q4, (by
        refine Sound.enter inn ?_
        unfold TDi
        repeat (first | exact rfl | refine ⟨_, _, rfl, ?_, ?_⟩ | exact .inr ⟨rfl, rfl⟩ | exact .inl ⟨rfl, rfl⟩ | exact see_same _)), qn, trivial⟩
      refine canD hL' run (fun b => if b = 1 then 3 else b) rfl (by decide) rfl rfl ⟨.inr (.inr ⟨1, by simp, rfl⟩), .inr (.inl ⟨rfl, rfl⟩), .inr (.inl hf), .inr (.inr ⟨0, by simp, rfl⟩), trivial⟩ rfl (show 2 ≤ 4 by decide) (fun b h1 h2 => by rw [only b h1 h2]; rfl) ?_
      rw [rensTD _ rfl]
      repeat (first | exact rfl | refine ⟨_, _, rfl, ?_, ?_⟩ | exact .inr ⟨rfl, rfl⟩ | exact .inl ⟨rfl, rfl⟩ | exact see_same _)
    · have hlen : 0 < L.length := List.length_pos_iff.2 hne
      obtain ⟨k, k1, k2, k3, inn⟩ := y_inner (A := A) (fun d hd => Nat.lt_trans (hb d hd) hi) (by omega) hi L.length (Nat.le_refl _)
      have inn := inn none none []
      have tk : (L.take k).length = k := by rw [List.length_take, Nat.min_eq_left k1]
      have dk : (L.drop k).length = L.length - k := List.length_drop
      have h1 : ∀ z ∈ L.take k, atA A z ≤ atA A i := by
        intro z hz
        rcases k2 with rfl | ⟨d, e1, e2⟩
        · simp at hz
        · have hk0 : k - 1 < L.length := (List.getElem?_eq_some_iff.1 e1).1
          have hk : k ≠ 0 := fun e => by subst e; simp at hz
          have et : L.take k = L.take (k - 1) ++ [d] := by
            have := List.take_add_one (l := L) (i := k - 1)
            rw [e1, show k - 1 + 1 = k from by omega] at this
            exact this
          have hs' : Srt (atA A) (L.take (k - 1) ++ [d]) := by
            rw [← et]
            exact List.Pairwise.sublist (List.take_sublist _ _) hsrt
          rw [et] at hz
          have := srt_last hs' hz
          omega
      have h2 : ∀ z ∈ L.drop k, atA A i < atA A z := by
        intro z hz
        obtain ⟨j, hj, rfl⟩ := List.getElem_of_mem hz
        rw [List.getElem_drop]
        exact k3 (k + j) _ (by omega) (by rw [dk] at hj; omega) (List.getElem?_eq_getElem _)
      have hS : Srt (atA A) (L.take k ++ i :: L.drop k) := srt_right (by rw [List.take_append_drop]; exact hsrt) h1 h2 (by
        rw [List.take_append_drop]
        intro a ha b hb'
        have : b = i := by simpa using hb'
        rw [this]
        exact hb a ha)
      have hP : (L.take k ++ i :: L.drop k).Perm (L ++ [i]) := by
        refine List.perm_middle.trans ?_
        rw [List.take_append_drop]
        exact (List.perm_append_singleton i L).symm
      have hL' : NOd (L.take k ++ i :: L.drop k) (.osl 1 0 (L.length + 1) 1) (.cells false (nc (L.take k ++ i :: L.drop k))) := .inr ⟨by simp, by rw [List.length_append, List.length_cons, tk, dk, show k + (L.length - k + 1) = L.length + 1 from by omega], rfl⟩
      refine ⟨_, _, _, hL', hS, hP, ?_⟩
      have e0 : ∀ {s : AS}, s.get 1 = some (.cells false (nc L)) → firstA s 1 k (.osl 1 0 k 1) = some (nc (L.take k)) := fun h => by
        rw [nc_rows] at h ⊢
        exact first_take (f := fun d : Nat => [AV.int .i64 (Int.ofNat d)]) (fun _ => rfl) h k1
      have e1 : ∀ {s : AS}, s.get 1 = some (.cells false (nc L)) → firstA s 1 (L.length - k) (.osl 1 (k * 1) (L.length - k) 1) = some (nc (L.drop k)) := fun h => by
        rw [nc_rows] at h ⊢
        exact first_drop (f := fun d : Nat => [AV.int .i64 (Int.ofNat d)]) (fun _ => rfl) h k1
      have s0 : (Qst.sli 57 (.osl 1 0 L.length 1) none (some (.int .i64 (Int.ofNat k))) none (.osl 1 0 k 1)).ok Try.prog := sli_to t57 z3 k1
      have s1 : (Qst.sli 57 (.osl 1 0 L.length 1) (some (.int .i64 (Int.ofNat k))) none none (.osl 1 (k * 1) (L.length - k) 1)).ok Try.prog := sli_from t57 z3 k1
      have lp : ∀ k', k' = k → Sound Try.prog (.code (.loop (loopAt Try.prog 20 1)) [.osl 0 0 A.length 9, uu, .nilSlice, .osl 1 0 L.length 1, .int .i64 (Int.ofNat i), .int .i64 (Int.ofNat L.length), .int .i64 (Int.ofNat i), .osl 0 0 A.length 9, .int .i64 (Int.ofNat A.length), .bool true, uu, uu, .osl 0 0 A.length 9, .int .i64 (Int.ofNat i), .ptr 0 (i * 9), .ptr 0 (i * 9 + 7), .int .i64 (atA A i), .bool false, .osl 1 0 L.length 1, .int .i64 (Int.ofNat L.length), uu, uu, uu, uu, uu, uu, uu, uu, uu, uu, uu, uu, uu, uu, uu, uu, uu, uu, uu, uu, uu, uu, uu, uu, uu, uu, uu, uu, uu, uu, uu, uu, uu] ⟨⟨bsY L A, 2, none, []⟩, 2⟩) ⟨.exit 2, TDi (.osl 0 0 A.length 9) (.osl 1 0 L.length 1) i k', ⟨⟨bsY L A, 2, none, []⟩, 2⟩⟩ := by
        rintro _ rfl
        refine Sound.enter inn ?_
        unfold TDi
        repeat (first | exact rfl | refine ⟨_, _, rfl, ?_, ?_⟩ | exact .inr ⟨rfl, rfl⟩ | exact .inl ⟨rfl, rfl⟩ | exact see_same _)
      by_cases h0 : k = 0
      · subst h0
        rw [Nat.sub_zero, Nat.zero_mul] at s1
        have e1' := @e1
        rw [Nat.sub_zero, Nat.zero_mul] at e1'
        have ap : ∀ {w : List Nat} {o : AObj}, (Qst.app ⟨⟨[(3, .cells false [.int .i64 (Int.ofNat i)]), (2, o), (1, .cells false (nc L)), (0, .cells true (co A))], 4, none, w⟩, 4⟩ 57 57 (.osl 3 0 1 1) (.osl 1 0 L.length 1) (.osl 4 0 (L.length + 1) 1) ⟨⟨[(4, .cells false (nc (L.take 0 ++ i :: L.drop 0))), (3, .dead), (2, o), (1, .cells false (nc L)), (0, .cells true (co A))], 5, none, 3 :: w⟩, 5⟩).ok Try.prog := fun {w o} => by
          have := app_ox (s := ⟨⟨[(3, .cells false [.int .i64 (Int.ofNat i)]), (2, o), (1, .cells false (nc L)), (0, .cells true (co A))], 4, none, w⟩, 4⟩) (b := 3) (R := nc [i]) r57 (y := .osl 1 0 L.length 1) rfl (e1' rfl) (nc_one _) rfl (k := 1) rfl rfl (by omega) (by omega)
          rw [Nat.add_comm 1] at this
          exact this
        have run := runX_sound mixed none_sound (y_l (.osl 0 0 A.length 9) .nilFunc A.length i 0 L.length (i * 9) 0 0 0 0 (atA A i) 0 (.cells false (nc L)) .dead (.cells false (nc (L.take 0 ++ i :: L.drop 0))) .dead (co A)) ⟨ln_51 _ _ _, q1, q2, q3 _ rfl, q4, lp 0 rfl, s0, s1, app_n0 r57 rfl (e0 rfl) rfl rfl, ap, qn, trivial⟩
        refine canD hL' run (fun b => if b = 1 then 4 else b) rfl (by decide) rfl rfl ⟨.inr (.inr ⟨1, by simp, rfl⟩), .inl rfl, .inr (.inl ⟨rfl, rfl⟩), .inr (.inl (freeRow L)), .inr (.inr ⟨0, by simp, rfl⟩), trivial⟩ rfl (show 2 ≤ 5 by decide) (fun b h1 h2 => by rw [only b h1 h2]; rfl) ?_
        rw [rensTD _ rfl]
        repeat (first | exact rfl | refine ⟨_, _, rfl, ?_, ?_⟩ | exact .inr ⟨rfl, rfl⟩ | exact .inl ⟨rfl, rfl⟩ | exact see_same _)
      · have app1 : (Qst.app ⟨⟨[(2, .cells false [.int .i64 (Int.ofNat i)]), (1, .cells false (nc L)), (0, .cells true (co A))], 3, none, []⟩, 3⟩ 57 57 .nilSlice (.osl 1 0 k 1) (.osl 3 0 k 1) ⟨⟨[(3, .cells false (nc (L.take k))), (2, .cells false [.int .i64 (Int.ofNat i)]), (1, .cells false (nc L)), (0, .cells true (co A))], 4, none, []⟩, 4⟩).ok Try.prog := app_nx r57 rfl (e0 rfl) (nc_one _) h0 (by omega)
        have app2 : (Qst.app ⟨⟨[(3, .cells false (nc (L.take k))), (2, .cells false [.int .i64 (Int.ofNat i)]), (1, .cells false (nc L)), (0, .cells true (co A))], 4, none, []⟩, 4⟩ 57 57 (.osl 3 0 k 1) (.slice 2 0 1 1) (.osl 4 0 (k + 1) 1) ⟨⟨[(4, .cells false (nc (L.take k ++ [i]))), (3, .dead), (2, .cells false [.int .i64 (Int.ofNat i)]), (1, .cells false (nc L)), (0, .cells true (co A))], 5, none, [3]⟩, 5⟩).ok Try.prog := by
          have := app_n (s := ⟨⟨[(3, .cells false (nc (L.take k))), (2, .cells false [.int .i64 (Int.ofNat i)]), (1, .cells false (nc L)), (0, .cells true (co A))], 4, none, []⟩, 4⟩) (b := 3) (b2 := 2) (c2 := 1) (ro := false) (L := L.take k) (i := i) rfl rfl (by omega)
          rw [tk] at this
          exact this
        by_cases hlt : k < L.length
        · have app3 : (Qst.app ⟨⟨[(4, .cells false (nc (L.take k ++ [i]))), (3, .dead), (2, .cells false [.int .i64 (Int.ofNat i)]), (1, .cells false (nc L)), (0, .cells true (co A))], 5, none, [3]⟩, 5⟩ 57 57 (.osl 4 0 (k + 1) 1) (.osl 1 (k * 1) (L.length - k) 1) (.osl 5 0 (L.length + 1) 1) ⟨⟨[(5, .cells false (nc (L.take k ++ i :: L.drop k))), (4, .dead), (3, .dead), (2, .cells false [.int .i64 (Int.ofNat i)]), (1, .cells false (nc L)), (0, .cells true (co A))], 6, none, [4, 3]⟩, 6⟩).ok Try.prog := by
            have := app_ox (s := ⟨⟨[(4, .cells false (nc (L.take k ++ [i]))), (3, .dead), (2, .cells false [.int .i64 (Int.ofNat i)]), (1, .cells false (nc L)), (0, .cells true (co A))], 5, none, [3]⟩, 5⟩) (b := 4) (R := nc (L.take k ++ [i])) r57 (y := .osl 1 (k * 1) (L.length - k) 1) rfl (e1 rfl) (nc_one _) rfl (k := k + 1) (by rw [Nat.mul_one]; unfold nc; rw [List.length_map, List.length_append, tk]; rfl) (nc_one _) (by omega) (by omega)
            rw [show k + 1 + (L.length - k) = L.length + 1 from by omega, show nc (L.take k ++ [i]) ++ nc (L.drop k) = nc (L.take k ++ i :: L.drop k) from by simp [nc]] at this
            exact this
          have run := runX_sound mixed none_sound (y_m (.osl 0 0 A.length 9) .nilFunc A.length i k L.length (i * 9) 0 0 (k * 1) (L.length - k) (atA A i) 0 (.cells false (nc L)) (.cells false (nc (L.take k))) (.cells false (nc (L.take k ++ [i]))) (.cells false (nc (L.take k ++ i :: L.drop k))) (co A)) ⟨ln_51 _ _ _, q1, q2, q3 _ rfl, q4, lp k rfl, s0, s1, app1, app2, app3, qn, trivial⟩
          refine canD hL' run (fun b => if b = 1 then 5 else b) rfl (by decide) rfl rfl ⟨.inr (.inr ⟨1, by simp, rfl⟩), .inl rfl, .inl rfl, .inr (.inl ⟨rfl, rfl⟩), .inr (.inl (freeRow L)), .inr (.inr ⟨0, by simp, rfl⟩), trivial⟩ rfl (show 2 ≤ 6 by decide) (fun b h1 h2 => by rw [only b h1 h2]; rfl) ?_
          rw [rensTD _ rfl]
          repeat (first | exact rfl | refine ⟨_, _, rfl, ?_, ?_⟩ | exact .inr ⟨rfl, rfl⟩ | exact .inl ⟨rfl, rfl⟩ | exact see_same _)
        · have hz : L.length - k = 0 := by omega
          have hdr : L.drop k = [] := List.drop_eq_nil_of_le (by omega)
          rw [hz] at s1
          have e1' := @e1
          rw [hz] at e1'
          have run := runX_sound mixed none_sound (y_e (.osl 0 0 A.length 9) .nilFunc A.length i k L.length (i * 9) 0 0 (k * 1) 0 (atA A i) 0 (.cells false (nc L)) (.cells false (nc (L.take k))) (.cells false (nc (L.take k ++ [i]))) .dead (co A)) ⟨ln_51 _ _ _, q1, q2, q3 _ rfl, q4, lp k rfl, s0, s1, app1, app2, app_o0 r57 rfl (e1' rfl) (nc_one _) rfl, qn, trivial⟩
          rw [hdr, show L.length + 1 = k + 1 from by omega] at hL' ⊢
          refine canD hL' run (fun b => if b = 1 then 4 else b) rfl (by decide) rfl rfl ⟨.inr (.inr ⟨1, by simp, rfl⟩), .inl rfl, .inr (.inl ⟨rfl, rfl⟩), .inr (.inl (freeRow L)), .inr (.inr ⟨0, by simp, rfl⟩), trivial⟩ rfl (show 2 ≤ 5 by decide) (fun b h1 h2 => by rw [only b h1 h2]; rfl) ?_
          rw [rensTD _ rfl]
          repeat (first | exact rfl | refine ⟨_, _, rfl, ?_, ?_⟩ | exact .inr ⟨rfl, rfl⟩ | exact .inl ⟨rfl, rfl⟩ | exact see_same _)
end
end Go.Proofs.Ythooafgfpnedhaa.specsJudge
