/- The queue told; the second loop. Conditions: those that each theorem names, and no others. -/
import Derived.Test.YthooafgfpnedhaaApart7
import Derived.Test.YthooafgfpnedhaaApart9
namespace Go.Proofs.Ythooafgfpnedhaa.specsApart
open Go Go.Mini
theorem livC (s : AS) : Sound Try.prog (.call 17 [] s) ⟨.ret, [.bool true], s⟩ :=
  Sound.put (bs0 := []) (runX_sound mixed none_sound livR trivial) noG (fun b => b) [] s trivial (fun b hb => by cases hb) List.nodup_nil List.nodup_nil (fun b hb => by cases hb) rfl rfl
section
variable {s : AS} {b bm k n : Nat} {t q : AV} {R : List Int}
theorem rec_push {P : Program} {f : FuncId} {args vs : List AV} {e : AExit} {X Y o : AObj} (h : Sound P (.call f args s) ⟨e, vs, ((s.set b X).set bm Y).push o⟩) (hb : s.get b = some X) (hm : s.get bm = some Y) : Sound P (.call f args s) ⟨e, vs, s.push o⟩ :=
  Sound.recast h (fun c => by rw [get_push, get_push, get_set_same (s := s.set b X) (by rw [get_set_same hb]; exact hm), get_set_same hb]; rfl) (by show s.nx :: s.h.bs.map (·.1) = s.nx :: (setB (setB s.h.bs b X) bm Y).map (·.1); rw [setB_keys, setB_keys]) rfl rfl ⟨[], rfl, fun c hc _ => by rw [get_push, if_neg (by omega)]⟩
theorem Q12n (hb : s.get b = some (.cells false [t, q, .nilSlice])) (ht : Mp t) (hq : Mp q) : Sound Try.prog (.call 12 [.ptr b 0] s) ⟨.ret, [.nilSlice], s⟩ := by
  obtain ⟨t0, c6, nt, rt⟩ := ht.small 6 (by decide)
  obtain ⟨q0, c7, nq, rq⟩ := hq.small 7 (by decide)
  have h := Sound.put (bs0 := [(4, .cells false [t0, q0, .nilSlice])]) (runX_sound mixed none_sound (q12n 0 0 [] [] t0 q0) trivial) noG (p4 b 0 c6 c7) [] s
    ⟨⟨show 4 < 8 by decide, rfl, and2 nt (and2 nq rfl), rfl, by show s.get b = some (.cells false [t0.ren _, q0.ren _, .nilSlice]); rw [rt _ rfl, rq _ rfl]; exact hb, .inl rfl, and2 (pN_8 nt) (and2 (pN_8 nq) rfl)⟩, trivial⟩
    (fun b hb c hc _ => by
      simp only [List.map_cons, List.map_nil, List.mem_cons, List.not_mem_nil, or_false] at hb hc
      rw [hb, hc]) (show [4].Nodup by decide) List.nodup_nil (fun b hb => by cases hb) rfl rfl
  have e4 : (objAt (⟨⟨[(4, .cells false [t0, q0, .nilSlice])], 1, none, []⟩, 8⟩ : AS) 4).ren (pR 8 [] (p4 b 0 c6 c7) s.nx) = .cells false [t, q, .nilSlice] := by
    show AObj.cells false [t0.ren _, q0.ren _, .nilSlice] = _
    rw [rt _ rfl, rq _ rfl]
  simp only [List.map_cons, List.map_nil, setL, pushL] at h
  rw [e4] at h
  exact rec_same1 h hb
theorem app_fresh {b2 bq : Nat} {ro : Bool} (hb : s.get b2 = some (.cells false [])) (hq : s.get bq = some (.cells ro (uc R))) (ho : k + n = R.length) (hn : n ≠ 0) (hk : n < 16777216) :
    appendA Try.prog s 30 30 (.slice b2 0 0 0) (.osl bq k n 1) = some (.osl s.nx 0 n 1, s.push (.cells false (uc (R.drop k)))) := by
  obtain ⟨elem, e2, i, z, size, u1, u2, u3, u4, u5, u0, u6, u7⟩ := rowT_inv (P := Try.prog) (t := 30) (t2 := 30) (n := 1) (by kernel_rfl)
  have hs0 : size = 0 := by omega
  subst hs0
  have hd : readA s bq k (n * 1) = some (uc (R.drop k)) := by
    simp only [readA, hq, uc, ← List.map_drop]
    refine takeN_all ?_
    simp
    omega
  have h0 : readA s b2 0 (0 * 1) = some [] := by simp [readA, hb, takeN]
  have ones : ∀ L : List Int, (uc L).all AV.one = true := fun L => by simp [uc, AV.one]
  have hs : small (0 + n) = true := by
    unfold small
    exact Nat.ble_eq_true_of_le (by omega)
  have hble : Nat.ble (0 + n) 0 = false := by
    cases hh : Nat.ble (0 + n) 0 with
    | false => rfl
    | true => have := Nat.le_of_ble_eq_true hh; omega
  have hf : firstA s 1 n (.osl bq k n 1) = some (uc (R.drop k)) := hd
  simp only [appendA, u1, u3, u4, u5, sliceLen, u6, u7, Nat.zero_add, hf, ones, Bool.and_self, Bool.not_true, Bool.false_eq_true, if_false]
  simp only [Nat.zero_add] at hble hs
  simp only [hble, hs, Bool.false_eq_true, if_false, if_true, h0, List.all_nil, List.nil_append]
theorem sli_all {b2 : Nat} : (Qst.sli 30 (.osl b2 0 n 1) none (some (.int .i64 (Int.ofNat n))) (some (.int .i64 (Int.ofNat n))) (.slice b2 0 n n)).ok Try.prog := by
  simp only [Qst.ok, sliceA, t30, s22, boundA]
  simp
theorem Q12s (hb : s.get b = some (.cells false [t, q, .osl bm k n 1])) (hm : s.get bm = some (.cells false (uc R))) (ht : Mp t) (hq : Mp q) (hne : b ≠ bm) (hk : k + n = R.length) (hs : n < 16777216) :
    Sound Try.prog (.call 12 [.ptr b 0] s) ⟨.ret, [.slice s.nx 0 n n], s.push (.cells false (uc (R.drop k)))⟩ := by
  obtain ⟨t0, c6, nt, rt⟩ := ht.small 6 (by decide)
  obtain ⟨q0, c7, nq, rq⟩ := hq.small 7 (by decide)
  have inj : ∀ b' ∈ [4, 5], ∀ c ∈ [4, 5], p4 b bm c6 c7 b' = p4 b bm c6 c7 c → b' = c := fun b' hb' c hc he => by
    simp only [List.mem_cons, List.not_mem_nil, or_false] at hb' hc
    rcases hb' with rfl | rfl <;> rcases hc with rfl | rfl
    · rfl
    · exact absurd he hne
    · exact absurd he.symm hne
    · rfl
  by_cases hn : n = 0
  · subst hn
    have hR : R.drop k = [] := List.drop_eq_nil_of_le (by omega)
    have h := Sound.put (bs0 := [(4, .cells false [t0, q0, .osl 5 k 0 1]), (5, .cells false (uc R))]) (runX_sound mixed none_sound (q12z k 0 (uc R) [] t0 q0) trivial) noG (p4 b bm c6 c7) [8] s
      ⟨⟨show 4 < 8 by decide, rfl, and2 nt (and2 nq rfl), rfl, by show s.get b = some (.cells false [t0.ren _, q0.ren _, .osl bm k 0 1]); rw [rt _ rfl, rq _ rfl]; exact hb, .inl rfl, and2 (pN_8 nt) (and2 (pN_8 nq) rfl)⟩,
        ⟨show 5 < 8 by decide, rfl, names_uc _ _, rfl, by show s.get bm = some (.cells false (rens _ _)); rw [rens_uc]; exact hm, .inl rfl, names_uc _ _⟩, trivial⟩
      inj (show [4, 5].Nodup by decide) (show [8].Nodup by decide) (fun b' hb' => by
        simp only [List.mem_singleton] at hb'
        subst hb'
        exact ⟨by decide, rfl, rfl⟩) rfl rfl
    have e4 : (AObj.cells false [t0, q0, .osl 5 k 0 1]).ren (pR 8 [8] (p4 b bm c6 c7) s.nx) = .cells false [t, q, .osl bm k 0 1] := by
      show AObj.cells false [t0.ren _, q0.ren _, .osl bm k 0 1] = _
      rw [rt _ rfl, rq _ rfl]
    simp only [List.map_cons, List.map_nil, setL, pushL, objAt, AS.get, getB, Nat.beq] at h
    simp only [Bool.false_eq_true, if_false, if_true, Option.getD_some] at h
    rw [e4] at h
    simp only [AObj.ren, rens_uc, rens] at h
    rw [hR]
    exact rec_push h hb hm
  · have h := Sound.put (bs0 := [(4, .cells false [t0, q0, .osl 5 k n 1]), (5, .cells false (uc R))]) (runX_sound mixed none_sound (q12s k n (uc R) (uc (R.drop k)) t0 q0) ⟨app_fresh rfl rfl hk hn hs, sli_all, trivial⟩) noG (p4 b bm c6 c7) [9] s
      ⟨⟨show 4 < 8 by decide, rfl, and2 nt (and2 nq rfl), rfl, by show s.get b = some (.cells false [t0.ren _, q0.ren _, .osl bm k n 1]); rw [rt _ rfl, rq _ rfl]; exact hb, .inl rfl, and2 (pN_8 nt) (and2 (pN_8 nq) rfl)⟩,
        ⟨show 5 < 8 by decide, rfl, names_uc _ _, rfl, by show s.get bm = some (.cells false (rens _ _)); rw [rens_uc]; exact hm, .inl rfl, names_uc _ _⟩, trivial⟩
      inj (show [4, 5].Nodup by decide) (show [9].Nodup by decide) (fun b' hb' => by
        simp only [List.mem_singleton] at hb'
        subst hb'
        exact ⟨by decide, rfl, names_uc _ _⟩) rfl rfl
    have e4 : (AObj.cells false [t0, q0, .osl 5 k n 1]).ren (pR 8 [9] (p4 b bm c6 c7) s.nx) = .cells false [t, q, .osl bm k n 1] := by
      show AObj.cells false [t0.ren _, q0.ren _, .osl bm k n 1] = _
      rw [rt _ rfl, rq _ rfl]
    simp only [List.map_cons, List.map_nil, setL, pushL, objAt, AS.get, getB, Nat.beq] at h
    simp only [Bool.false_eq_true, if_false, if_true, Option.getD_some] at h
    rw [e4] at h
    simp only [AObj.ren, rens_uc] at h
    exact rec_push h hb hm
end

/-! ### the second loop -/
theorem idx_r {b o n k : Nat} (hk : k < n) : (Qst.idx 30 (.osl b o n 1) (.int .i64 (Int.ofNat k)) (.ptr b (o + k))).ok Try.prog := by
  simp only [Qst.ok, indexAddrA, t30, s22]
  rw [if_pos ⟨by simp, by simp; omega⟩]
  simp
theorem loop2_8_14 {iv ov : AV} {ln : Nat} {rest : List (Nat × AObj)} (L : List Int) (hI : ∀ s : AS, lenA Try.prog s 30 iv = some (.int .i64 (Int.ofNat L.length))) (hO : ∀ s : AS, lenA Try.prog s 30 ov = some (.int .i64 (Int.ofNat L.length)))
    (h7 : L = [] ∨ (iv = .osl 7 0 L.length 1 ∧ ov = .osl 8 0 L.length 1 ∧ getB rest 7 = some (.cells false (uc L)) ∧ getB rest 8 = some (.cells false (uc L)))) (hs : L.length < 1000) (ni : junkOf iv = uu ∧ junkable iv = true) (no : junkOf ov = uu ∧ junkable ov = true) :
    ∀ m i, L.length - i = m → i ≤ L.length → SoundL Try.prog [] (.loop (loopAt Try.prog 4 1)) (TB uu iv ov i) rest ln 14 (.exit 2) (TB uu iv ov L.length) rest := by
  intro m
  induction m with
  | zero =>
    intro i hm hi
    have : i = L.length := by omega
    subst this
    refine SoundL.stop (SoundL.plain (runX_sound mixed none_sound (l2end_8_14 iv ov L.length L.length 0 0 ln 0 rest) ⟨hI _, lt_q _ _ _ (by simp), trivial⟩) ?_) (by simp)
    unfold TB
    repeat (first | exact rfl | refine ⟨_, _, rfl, ?_, ?_⟩ | exact .inr ⟨rfl, rfl⟩ | exact .inl ⟨rfl, rfl⟩ | exact .inl ⟨ni.1.symm, ni.2⟩ | exact .inl ⟨no.1.symm, no.2⟩ | exact see_same _)
  | succ m ih =>
    intro i hm hi
    have hlt : i < L.length := by omega
    rcases h7 with rfl | ⟨rfl, rfl, g7, g8⟩
    · simp at hlt
    have hget : L[0 + i]? = some L[i] := by rw [Nat.zero_add]; exact List.getElem?_eq_getElem hlt
    refine SoundL.next (SoundL.plain (runX_sound mixed none_sound (l2go_8_14 _ _ L.length i (0 + i) (0 + i) ln L[i] rest) ⟨hI _, lt_q _ _ _ (by simpa using hlt), idx_r hlt, q_ld hget g7, idx_r hlt, q_ld hget g8, same_q _, wrapq _ rfl (by omega), trivial⟩) ?_) (ih (i + 1) (by omega) (by omega))
    unfold TB
    repeat (first | exact rfl | refine ⟨_, _, rfl, ?_, ?_⟩ | exact .inr ⟨rfl, rfl⟩ | exact .inl ⟨rfl, rfl⟩ | exact see_same _)
theorem loop2_8_15 {iv ov : AV} {ln : Nat} {rest : List (Nat × AObj)} (L : List Int) (hI : ∀ s : AS, lenA Try.prog s 30 iv = some (.int .i64 (Int.ofNat L.length))) (hO : ∀ s : AS, lenA Try.prog s 30 ov = some (.int .i64 (Int.ofNat L.length)))
    (h7 : L = [] ∨ (iv = .osl 7 0 L.length 1 ∧ ov = .osl 8 0 L.length 1 ∧ getB rest 7 = some (.cells false (uc L)) ∧ getB rest 8 = some (.cells false (uc L)))) (hs : L.length < 1000) (ni : junkOf iv = uu ∧ junkable iv = true) (no : junkOf ov = uu ∧ junkable ov = true) :
    ∀ m i, L.length - i = m → i ≤ L.length → SoundL Try.prog [] (.loop (loopAt Try.prog 4 1)) (TB uu iv ov i) rest ln 15 (.exit 2) (TB uu iv ov L.length) rest := by
  intro m
  induction m with
  | zero =>
    intro i hm hi
    have : i = L.length := by omega
    subst this
    refine SoundL.stop (SoundL.plain (runX_sound mixed none_sound (l2end_8_15 iv ov L.length L.length 0 0 ln 0 rest) ⟨hI _, lt_q _ _ _ (by simp), trivial⟩) ?_) (by simp)
    unfold TB
    repeat (first | exact rfl | refine ⟨_, _, rfl, ?_, ?_⟩ | exact .inr ⟨rfl, rfl⟩ | exact .inl ⟨rfl, rfl⟩ | exact .inl ⟨ni.1.symm, ni.2⟩ | exact .inl ⟨no.1.symm, no.2⟩ | exact see_same _)
  | succ m ih =>
    intro i hm hi
    have hlt : i < L.length := by omega
    rcases h7 with rfl | ⟨rfl, rfl, g7, g8⟩
    · simp at hlt
    have hget : L[0 + i]? = some L[i] := by rw [Nat.zero_add]; exact List.getElem?_eq_getElem hlt
    refine SoundL.next (SoundL.plain (runX_sound mixed none_sound (l2go_8_15 _ _ L.length i (0 + i) (0 + i) ln L[i] rest) ⟨hI _, lt_q _ _ _ (by simpa using hlt), idx_r hlt, q_ld hget g7, idx_r hlt, q_ld hget g8, same_q _, wrapq _ rfl (by omega), trivial⟩) ?_) (ih (i + 1) (by omega) (by omega))
    unfold TB
    repeat (first | exact rfl | refine ⟨_, _, rfl, ?_, ?_⟩ | exact .inr ⟨rfl, rfl⟩ | exact .inl ⟨rfl, rfl⟩ | exact see_same _)
theorem loop2_15_16 {iv ov : AV} {ln : Nat} {rest : List (Nat × AObj)} (L : List Int) (hI : ∀ s : AS, lenA Try.prog s 30 iv = some (.int .i64 (Int.ofNat L.length))) (hO : ∀ s : AS, lenA Try.prog s 30 ov = some (.int .i64 (Int.ofNat L.length)))
    (h7 : L = [] ∨ (iv = .osl 7 0 L.length 1 ∧ ov = .osl 15 0 L.length 1 ∧ getB rest 7 = some (.cells false (uc L)) ∧ getB rest 15 = some (.cells false (uc L)))) (hs : L.length < 1000) (ni : junkOf iv = uu ∧ junkable iv = true) (no : junkOf ov = uu ∧ junkable ov = true) :
    ∀ m i, L.length - i = m → i ≤ L.length → SoundL Try.prog [] (.loop (loopAt Try.prog 4 1)) (TB uu iv ov i) rest ln 16 (.exit 2) (TB uu iv ov L.length) rest := by
  intro m
  induction m with
  | zero =>
    intro i hm hi
    have : i = L.length := by omega
    subst this
    refine SoundL.stop (SoundL.plain (runX_sound mixed none_sound (l2end_15_16 iv ov L.length L.length 0 0 ln 0 rest) ⟨hI _, lt_q _ _ _ (by simp), trivial⟩) ?_) (by simp)
    unfold TB
    repeat (first | exact rfl | refine ⟨_, _, rfl, ?_, ?_⟩ | exact .inr ⟨rfl, rfl⟩ | exact .inl ⟨rfl, rfl⟩ | exact .inl ⟨ni.1.symm, ni.2⟩ | exact .inl ⟨no.1.symm, no.2⟩ | exact see_same _)
  | succ m ih =>
    intro i hm hi
    have hlt : i < L.length := by omega
    rcases h7 with rfl | ⟨rfl, rfl, g7, g8⟩
    · simp at hlt
    have hget : L[0 + i]? = some L[i] := by rw [Nat.zero_add]; exact List.getElem?_eq_getElem hlt
    refine SoundL.next (SoundL.plain (runX_sound mixed none_sound (l2go_15_16 _ _ L.length i (0 + i) (0 + i) ln L[i] rest) ⟨hI _, lt_q _ _ _ (by simpa using hlt), idx_r hlt, q_ld hget g7, idx_r hlt, q_ld hget g8, same_q _, wrapq _ rfl (by omega), trivial⟩) ?_) (ih (i + 1) (by omega) (by omega))
    unfold TB
    repeat (first | exact rfl | refine ⟨_, _, rfl, ?_, ?_⟩ | exact .inr ⟨rfl, rfl⟩ | exact .inl ⟨rfl, rfl⟩ | exact see_same _)
end Go.Proofs.Ythooafgfpnedhaa.specsApart
