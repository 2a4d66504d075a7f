/- The first loop of the law. Conditions: those that each theorem names, and no others. -/
import Derived.Test.YthooafgfpnedhaaJud38
namespace Go.Proofs.Ythooafgfpnedhaa.specsJudge
open Go Go.Mini
theorem eachX_mono {f g : Nat → AObj → Prop} (h : ∀ b o, f b o → g b o) : ∀ {bs : List (Nat × AObj)}, eachX f bs → eachX g bs
  | [], _ => trivial
  | _ :: _, k => ⟨h _ _ k.1, eachX_mono h k.2⟩
theorem r51 : rowT Try.prog 51 51 9 = true := by kernel_rfl
theorem co_len (A : List Call9) : (co A).length = A.length * 9 := rowsOf_len (f := callO) (n := 9) (fun _ => rfl) A
theorem co_one : ∀ A : List Call9, (co A).all AV.one = true
  | [] => rfl
  | x :: A => by
    show (callO x ++ rowsOf callO A).all AV.one = true
    rw [List.all_append]
    exact and2 rfl (co_one A)
theorem app_co {s : AS} {b b2 : Nat} {ro : Bool} {A : List Call9} {z : Call9} (hb : s.get b = some (.cells false (co A))) (h2 : s.get b2 = some (.cells ro (callO z))) (hk : A.length < 16777216) :
    appendA Try.prog s 51 51 (.osl b 0 A.length 9) (.slice b2 0 1 1) = some (.osl s.nx 0 (A.length + 1) 9, (s.set b .dead).push (.cells false (co (A ++ [z])))) := by
  have := app_osl (P := Try.prog) (t := 51) (t2 := 51) (n := 9) (c2 := 1) (k := A.length) r51 hb (co_len A) (co_one A) h2 rfl rfl hk
  rw [this]
  simp [rowsOf]
theorem rens_TL {av x26 x27 : AV} (h26 : X12 x26) (h27 : XO x27) {π : Nat → Nat} (h0 : π 0 = 0) (n c i : Nat) : rens π (TL (.slice 0 0 n c) av x26 x27 i) = TL (.slice 0 0 n c) (av.ren π) x26 x27 i := by
  show [.slice (π 0) 0 n c, uu, .bool false, av.ren π, .int .i64 (Int.ofNat i)] ++ rens π (List.replicate 21 uu) ++ [x26.ren π] ++ [x27.ren π] ++ rens π (List.replicate 52 uu) = _
  rw [h0, h26.ren, h27.ren, rensW, rensW]
  rfl
theorem names_TL {p : Nat → Bool} {av x26 x27 : AV} (h26 : X12 x26) (h27 : XO x27) (h0 : p 0 = true) (ha : av.names p = true) (n c i : Nat) : namess p (TL (.slice 0 0 n c) av x26 x27 i) = true := by
  unfold TL
  simp only [namess, List.replicate, h0, ha, h26.nm, h27.nm, AV.names, namess, Bool.and_self]
section
variable {L : List Call9} {n c : Nat}
theorem canL {C0 : AS} {foot0 : List Nat} {T ts1 : List AV} {cd : Code} {e : AExit} {i : Nat} {bs1 : List (Nat × AObj)} {len1 nx1 m : Nat} {esc1 : Option Nat} {wr1 : List Nat} {A : List Call9} {x26 x27 : AV} (h26 : X12 x26) (h27 : XO x27)
    (hr : Sound Try.prog (.code cd T C0) ⟨e, ts1, ⟨⟨bs1, len1, esc1, wr1⟩, nx1⟩⟩) (hm : m ≠ 0) (g0 : getB bs1 0 = some (.cells true (rowsOf callC L))) (g1 : getB bs1 m = some (.cells false (co A)))
    (hcov : eachX (fun b o => o = .dead ∨ Free o ∨ b = 0) bs1) (hkeys : (bs1.all fun y => Nat.blt y.1 nx1) = true) (hnx : C0.nx ≤ nx1) (hst : ∀ b, b < C0.nx → b ∉ foot0 → getB bs1 b = C0.get b)
    (hts : seesT (fun b => b) (fun _ => true) (TL (.slice 0 0 n c) (.osl m 0 A.length 9) x26 x27 i) ts1) :
    Go.Mini.Good Try.prog [(0, rowsOf callC L)] C0 foot0 T cd e (TL (.slice 0 0 n c) (.osl 1 0 A.length 9) x26 x27 i) (canS [(1, .cells false (co A))] (rowsOf callC L) 2 2) [1] := by
  refine Good.can (bsC := [(1, .cells false (co A))]) (nxC := 2) hr noG (fun b => if b = 1 then m else b) rfl (names_calls _ _) ⟨⟨show 0 < 1 by decide, show 1 < 2 by decide, rfl, rfl, names_co _ _, by rw [(freeCo A).ren]; exact g1⟩, trivial⟩ (show [1].Nodup by decide) (fun b hb c hc _ => ?_) (fun c hc => ?_) g0 (eachX_mono (fun b o h => ?_) hcov) hkeys hnx (by decide) (fun c hc h => .inl ?_) hst ?_ (names_TL h26 h27 rfl rfl _ _ _)
  · have hb : b = 1 := by simpa using hb
    have hc : c = 1 := by simpa using hc
    rw [hb, hc]
  · have hc : c = 1 := by simpa using hc
    subst hc
    exact hm
  · rcases h with h | h | h
    · exact .inl h
    · exact .inr (.inl h)
    · exact .inr (.inr ⟨0, .inl rfl, h.symm⟩)
  · show c ∈ [1]
    simp
    omega
  · rw [rens_TL h26 h27 rfl]
    exact hts
variable (h1 : n ≤ L.length) (hs : n ≤ 100) (hn : 0 < n) (hB : ∀ z ∈ L, Byt z)
include h1 hs hn hB
theorem l_first {x26 x27 : AV} :
    Go.Mini.Good Try.prog [(0, rowsOf callC L)] (canS [] (rowsOf callC L) 1 1) [] (TL (.slice 0 0 n c) .nilSlice x26 x27 0) (loopAt Try.prog 5 0) .normal (TL (.slice 0 0 n c) (.osl 1 0 (L.take 1).length 9) (.agg (callC (fA (L.take n) 0))) (.agg (callO (fA (L.take n) 0))) 1) (canS [(1, .cells false (co (L.take 1)))] (rowsOf callC L) 2 2) [1] := by
  have W := rwc_sl L n c h1 (by omega)
  obtain ⟨a, q1, q2⟩ := W.at_ 0 hn
  have e1 : L.take 1 = [fA (L.take n) 0] := by
    have := List.take_add_one (l := L) (i := 0)
    rw [take_at h1 hn] at this
    exact this
  have hzB : Byt (fA (L.take n) 0) := hB _ (fA_mem h1 hn)
  obtain ⟨z, hz⟩ : ∃ z, fA (L.take n) 0 = z := ⟨_, rfl⟩
  rw [hz] at hzB e1 ⊢
  have l1 := (q2 (canS [] (rowsOf callC L) 1 1) true rfl).1
  rw [hz] at l1
  rw [e1]
  have run := runX_sound mixed none_sound (l_n (.slice 0 0 n c) .nilSlice x26 x27 n 0 a 0 0 0 false 0 z.1 z.2.1 z.2.2.1 z.2.2.2.1 z.2.2.2.2.1 z.2.2.2.2.2.1 z.2.2.2.2.2.2.1 z.2.2.2.2.2.2.2.1 z.2.2.2.2.2.2.2.2 .dead .dead .dead .dead .dead (rowsOf callC L) []) ⟨W.len _, ltq _ _ true (by simpa using hn), q1, l1, otC hzB _, wq _ rfl (by omega), trivial⟩
  refine canL (A := [z]) (m := 2) (.inr ⟨z, rfl⟩) (.inr ⟨z, rfl⟩) run (by decide) rfl rfl ⟨.inr (.inl ⟨rfl, rfl⟩), .inr (.inl ⟨rfl, rfl⟩), .inr (.inr rfl), trivial⟩ rfl (show 1 ≤ 3 by decide) (fun b h1 _ => by
    have h1 : b < 1 := h1
    have : b = 0 := by omega
    subst this
    rfl) ?_
  unfold TL
  repeat (first | exact rfl | refine ⟨_, _, rfl, ?_, ?_⟩ | exact .inr ⟨rfl, rfl⟩ | exact .inl ⟨rfl, rfl⟩ | exact see_same _)
theorem l_step {i : Nat} (hi : i < n) {x26 x27 : AV} :
    Go.Mini.Good Try.prog [(0, rowsOf callC L)] (canS [(1, .cells false (co (L.take i)))] (rowsOf callC L) 2 2) [1] (TL (.slice 0 0 n c) (.osl 1 0 (L.take i).length 9) x26 x27 i) (loopAt Try.prog 5 0) .normal (TL (.slice 0 0 n c) (.osl 1 0 (L.take (i + 1)).length 9) (.agg (callC (fA (L.take n) i))) (.agg (callO (fA (L.take n) i))) (i + 1)) (canS [(1, .cells false (co (L.take (i + 1))))] (rowsOf callC L) 2 2) [1] := by
  have W := rwc_sl L n c h1 (by omega)
  obtain ⟨a, q1, q2⟩ := W.at_ i hi
  have hzB : Byt (fA (L.take n) i) := hB _ (fA_mem h1 hi)
  have e1 : L.take (i + 1) = L.take i ++ [fA (L.take n) i] := by
    have := List.take_add_one (l := L) (i := i)
    rw [take_at h1 hi] at this
    exact this
  obtain ⟨z, hz⟩ : ∃ z, fA (L.take n) i = z := ⟨_, rfl⟩
  rw [hz] at hzB e1 ⊢
  have hl : (L.take i).length ≤ 100 := by rw [List.length_take]; omega
  have e2 : (L.take (i + 1)).length = (L.take i).length + 1 := by rw [e1]; simp
  have l1 := (q2 (canS [(1, .cells false (co (L.take i)))] (rowsOf callC L) 2 2) true rfl).1
  rw [hz] at l1
  have run := runX_sound mixed none_sound (l_s (.slice 0 0 n c) .nilSlice x26 x27 n i a (L.take i).length 0 0 false 0 z.1 z.2.1 z.2.2.1 z.2.2.2.1 z.2.2.2.2.1 z.2.2.2.2.2.1 z.2.2.2.2.2.2.1 z.2.2.2.2.2.2.2.1 z.2.2.2.2.2.2.2.2 .dead (.cells false (co (L.take i))) (.cells false (co (L.take i ++ [z]))) .dead .dead (rowsOf callC L) []) ⟨W.len _, ltq _ _ true (by simpa using hi), q1, l1, otC hzB _, app_co (ro := false) (z := z) rfl rfl (by omega), wq _ rfl (by omega), trivial⟩
  rw [← e1] at run
  have cv := canL (i := i + 1) (A := L.take (i + 1)) (n := n) (c := c) (m := 3) (.inr ⟨z, rfl⟩) (.inr ⟨z, rfl⟩) run (by decide) rfl rfl ⟨.inr (.inl (freeCo _)), .inr (.inl ⟨rfl, rfl⟩), .inl rfl, .inr (.inr rfl), trivial⟩ rfl (show 2 ≤ 4 by decide) (foot0 := [1]) (fun b h1 h2 => by
    have h1 : b < 2 := h1
    have : b = 0 := by
      simp at h2
      omega
    subst this
    rfl)
  rw [e2] at cv
  rw [e2]
  refine cv ?_
  unfold TL
  repeat (first | exact rfl | refine ⟨_, _, rfl, ?_, ?_⟩ | exact .inr ⟨rfl, rfl⟩ | exact .inl ⟨rfl, rfl⟩ | exact see_same _)
theorem l_tail : ∀ (k i : Nat), n - i = k → i ≤ n → ∀ {x26 x27 : AV}, X12 x26 → XO x27 → ∃ y26 y27, X12 y26 ∧ XO y27 ∧
    Go.Mini.Good Try.prog [(0, rowsOf callC L)] (canS [(1, .cells false (co (L.take i)))] (rowsOf callC L) 2 2) [1] (TL (.slice 0 0 n c) (.osl 1 0 (L.take i).length 9) x26 x27 i) (.loop (loopAt Try.prog 5 0)) (.exit 0) (TL (.slice 0 0 n c) (.osl 1 0 (L.take n).length 9) y26 y27 n) (canS [(1, .cells false (co (L.take n)))] (rowsOf callC L) 2 2) [1] := by
  intro k
  induction k with
  | zero =>
    intro i hk hi x26 x27 h26 h27
    have : i = n := by omega
    subst this
    refine ⟨x26, x27, h26, h27, Good.loop_stop (canL h26 h27 (m := 1) (foot0 := [1]) (runX_sound mixed none_sound (l_end (.slice 0 0 i c) (.osl 1 0 (L.take i).length 9) x26 x27 i i 0 0 0 0 false 0 0 0 0 0 0 0 0 0 0 .dead (.cells false (co (L.take i))) .dead .dead .dead (rowsOf callC L) []) ⟨(rwc_sl L i c h1 (by omega)).len _, ltq i i false (by simp), trivial⟩) (by decide) rfl rfl ⟨.inr (.inl (freeCo _)), .inr (.inr rfl), trivial⟩ rfl (show 2 ≤ 2 by decide) (fun b _ _ => rfl) ?_) (by simp)⟩
    unfold TL
    repeat (first | exact rfl | refine ⟨_, _, rfl, ?_, ?_⟩ | exact .inr ⟨rfl, rfl⟩ | exact .inl ⟨rfl, rfl⟩ | exact see_same _)
  | succ k ih =>
    intro i hk hi x26 x27 h26 h27
    have g := l_step (c := c) h1 hs hn hB (show i < n by omega) (x26 := x26) (x27 := x27)
    obtain ⟨z26, z27, k26, k27, g2⟩ := ih (i + 1) (by omega) (by omega) (x26 := .agg (callC (fA (L.take n) i))) (x27 := .agg (callO (fA (L.take n) i))) (.inr ⟨_, rfl⟩) (.inr ⟨_, rfl⟩)
    exact ⟨z26, z27, k26, k27, Good.loop_next (show 0 < 2 by decide) (fun b o h hr => can_rw b o h hr) g g2⟩
/-- Loop 1, in the law's state. -/
theorem loopL : ∃ y26 y27, Sound Try.prog (.code (.loop (loopAt Try.prog 5 0)) (TL (.slice 0 0 n c) .nilSlice undefA undefA 0) (canS [] (rowsOf callC L) 1 1)) ⟨.exit 0, TL (.slice 0 0 n c) (.osl 1 0 n 9) y26 y27 n, (canS [] (rowsOf callC L) 1 1).push (.cells false (co (L.take n)))⟩ := by
  obtain ⟨y26, y27, k26, k27, g2⟩ := l_tail (c := c) h1 hs hn hB (n - 1) 1 (by omega) hn (x26 := .agg (callC (fA (L.take n) 0))) (x27 := .agg (callO (fA (L.take n) 0))) (.inr ⟨_, rfl⟩) (.inr ⟨_, rfl⟩)
  obtain ⟨s1, π1, S1, A, n1⟩ := Good.loop_next (show 0 < 2 by decide) (fun b o h hr => by simpa using can_rw (bsC := []) b o h hr) (l_first (c := c) h1 hs hn hB (x26 := undefA) (x27 := undefA)) g2
  refine ⟨y26, y27, ?_⟩
  have hA : (L.take n).length = n := by rw [List.length_take]; omega
  rw [hA] at S1
  obtain ⟨o, e1, e2, e3, e4⟩ := A.in_.rw 1 (by simp)
  have eo : o = .cells false (co (L.take n)) := (Option.some.inj e1).symm
  subst eo
  rw [(freeCo _).ren] at e4
  have hm : 1 ≤ π1 1 := by
    by_cases h : 1 ≤ π1 1
    · exact h
    · have h0 : π1 1 = 0 := by omega
      have := A.stays 0 (show 0 < 1 by decide) (by simp)
      rw [← h0, e4, h0] at this
      cases this
  have ob : objAt s1 (π1 1) = .cells false (co (L.take n)) := by simp [objAt, e4]
  have h0 : π1 0 = 0 := A.in_.zero
  rw [rens_TL k26 k27 h0] at S1
  have := Sound.putC (bs0 := []) (Fz := [(0, rowsOf callC L)]) (n0 := 1) (nx0 := 1) S1 noG (fun b => b) [π1 1] (canS [] (rowsOf callC L) 1 1) (fun x hx => by
    have hx : x = (0, rowsOf callC L) := by simpa using hx
    subst hx
    exact ⟨show 0 < 1 by decide, by simp, names_calls _ _, ⟨true, rfl⟩, fun b hb => by cases hb⟩) trivial (fun b hb => by cases hb) List.nodup_nil (by simp) (fun b hb => by
    have hb : b = π1 1 := by simpa using hb
    subst hb
    exact ⟨hm, by rw [ob]; rfl, by rw [ob]; exact names_co _ _⟩) rfl (by
    have p0 : pN 1 [π1 1] 0 = true := by simp [pN]
    have p1 : pN 1 [π1 1] (π1 1) = true := by simp [pN]
    exact names_TL k26 k27 p0 (av := (AV.osl 1 0 n 9).ren π1) p1 _ _ _)
  rw [rens_TL k26 k27 (by simp [pR]), show ((AV.osl 1 0 n 9).ren π1).ren (pR 1 [π1 1] (fun b => b) (canS [] (rowsOf callC L) 1 1).nx) = .osl 1 0 n 9 from by
    show AV.osl (pR 1 [π1 1] (fun b => b) 1 (π1 1)) 0 _ 9 = _
    unfold pR
    rw [if_neg (by omega)]
    simp] at this
  simp only [List.map_nil, setL, List.map_cons, pushL, ob, (freeCo _).ren] at this
  exact this
end
end Go.Proofs.Ythooafgfpnedhaa.specsJudge
