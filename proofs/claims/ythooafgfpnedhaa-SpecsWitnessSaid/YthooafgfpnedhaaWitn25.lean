/- One step of the loop of made. Conditions: those that each theorem names, and no others. -/
import Derived.Test.YthooafgfpnedhaaWitn24
namespace Go.Proofs.Ythooafgfpnedhaa.specsWitness
open Go Go.Mini
def zC (f : Nat → Do3) (τ : Nat → Nat) (i : Nat) (to : Int) : Call9 := (Int.ofNat (i % 16), Int.ofNat (opM f i), (f i).2.1, (f i).2.2, Int.ofNat (ansM f i).1, (ansM f i).2, Int.ofNat (stM τ (i + 1) - τ i / 3 % 9), Int.ofNat (stM τ (i + 1)), to)
theorem callM_z (f : Nat → Do3) (τ : Nat → Nat) (i : Nat) : callM f τ i = zC f τ i (toM τ i) := rfl
theorem MO.ren2 {S : Option (List (Int × Int))} {m : AV} {b : Nat} {o : AObj} (h : MO S m b o) {π π' : Nat → Nat} (hp : π b = π' b) : m.ren π = m.ren π' := by
  cases S with
  | none => rw [h.1]; rfl
  | some es => rw [h.1]; simp [AV.ren, hp]
theorem QO.ren2 {Q : Option (List Int × Nat)} {m : AV} {b : Nat} {o : AObj} (h : QO Q m b o) {π π' : Nat → Nat} (hp : π b = π' b) : m.ren π = m.ren π' := by
  cases Q with
  | none => rw [h.1]; rfl
  | some R => rw [h.1]; simp [AV.ren, hp]
theorem len_calls (L : List Call9) : (rowsOf callC L).length = L.length * 9 := by
  induction L with
  | nil => rfl
  | cons x t ih =>
    show (callC x ++ rowsOf callC t).length = _
    rw [List.length_append, ih, List.length_cons]
    show 9 + _ = _
    omega
theorem ones_calls (L : List Call9) : (rowsOf callC L).all AV.one = true := by
  induction L with
  | nil => rfl
  | cons x t ih =>
    show (callC x ++ rowsOf callC t).all AV.one = true
    rw [List.all_append, ih]
    rfl
theorem app_calls {s : AS} {b b2 : Nat} {ro : Bool} {L : List Call9} {z : Call9} (hb : s.get b = some (.cells false (rowsOf callC L))) (h2 : s.get b2 = some (.cells ro (callC z))) (hk : L.length < 16777216) :
    appendA Try.prog s 50 50 (.osl b 0 L.length 9) (.slice b2 0 1 1) = some (.osl s.nx 0 (L.length + 1) 9, (s.set b .dead).push (.cells false (rowsOf callC (L ++ [z])))) := by
  have := app_osl (P := Try.prog) (t := 50) (t2 := 50) (n := 9) (c2 := 1) (k := L.length) (by kernel_rfl) hb (len_calls L) (ones_calls L) h2 rfl rfl hk
  rw [this]
  simp [rowsOf]
theorem eqN {a b : Nat} {r : Bool} (h : decide (a = b) = r) : (Qst.val (some (AV.bool (Int.ofNat a == Int.ofNat b))) (AV.bool r)).ok Try.prog := by
  simp only [Qst.ok]
  rw [← h]
  congr 2
  by_cases hh : a = b
  · simp [hh]
  · simp only [hh, decide_false, beq_eq_false_iff_ne, ne_eq]
    intro h2
    exact hh (Int.ofNat.inj h2)
section
variable {lA tA : AV} {n nt : Nat} {row trow : List AV} {f : Nat → Do3} {τ : Nat → Nat} (W : RwD lA n row f) (W2 : RwT tA nt trow τ)
include W W2
theorem canM2 {S' T' : Option (List (Int × Int))} {Q' : Option (List Int × Nat)} {st' : S3} (inv : Inv3 S' T' Q' st') {s : AS} {r : Nat} {x1 x2 x3 xN : AObj} (af : After s st' r x1 x2 x3 xN) {i st : Nat} {L : List Call9} {R : List Nat} {oC oO o11 o12 o14 o5 o6 : AObj} {x90 x95 : AV} (hc : MC (i + 1) L (.osl 5 0 (i + 1) 9) oC) (ho : MR (i + 1) R (.osl 6 0 (i + 1) 1) oO) (h90 : X12 x90) (h95 : X12 x95)
    (h11 : Free o11) (h12 : Free o12) (h14 : Free o14) (h5 : o5 = .dead ∨ Free o5) (h6 : o6 = .dead ∨ Free o6) {st0 : S3} {oC0 oO0 : AObj} {T ts1 : List AV} {c : Code} {e : AExit} {len1 : Nat} {esc1 : Option Nat} {wr1 : List Nat}
    (hs : Sound Try.prog (.code c T (CMd st0 oC0 oO0 row trow)) ⟨e, ts1, ⟨⟨[(15, oO), (14, o14), (13, oC), (12, o12), (11, o11), (10, xN), (6, o6), (5, o5), (4, .cells false [st'.mS.ren (moved r 10), st'.mT.ren (moved r 10), st'.q.ren (moved r 10)]), (3, x3), (2, x2), (1, x1), (9, .cells true trow), (0, .cells true row)], len1, esc1, wr1⟩, 16⟩⟩)
    (hts : seesT (fun b => b) (fun _ => true) ([lA, tA, uu, uu, .nilSlice, .nilSlice, .ptr 4 0, .osl 13 0 (i + 1) 9, .osl 15 0 (i + 1) 1, .int .i64 (Int.ofNat st), .int .i64 (Int.ofNat (i + 1))] ++ List.replicate 79 uu ++ [x90] ++ List.replicate 4 uu ++ [x95] ++ List.replicate 8 uu) ts1) :
    Go.Mini.Good Try.prog [(9, trow), (0, row)] (CMd st0 oC0 oO0 row trow) [6, 5, 4, 3, 2, 1] T c e (TM lA tA (.osl 5 0 (i + 1) 9) (.osl 6 0 (i + 1) 1) x90 x95 st (i + 1)) (CMd st' oC oO row trow) [6, 5, 4, 3, 2, 1] := by
  have hr := af.le
  have case0 : r = 0 ∨ r = 1 ∨ r = 2 ∨ r = 3 := by omega
  have m0 : mvM r 0 = 0 := by rcases case0 with rfl | rfl | rfl | rfl <;> rfl
  have m9 : mvM r 9 = 9 := by rcases case0 with rfl | rfl | rfl | rfl <;> rfl
  have m4 : mvM r 4 = 4 := by rcases case0 with rfl | rfl | rfl | rfl <;> rfl
  have m5 : mvM r 5 = 13 := by rcases case0 with rfl | rfl | rfl | rfl <;> rfl
  have m6 : mvM r 6 = 15 := by rcases case0 with rfl | rfl | rfl | rfl <;> rfl
  have eS : st'.mS.ren (moved r 10) = st'.mS.ren (mvM r) := inv.s.ren2 (by rcases case0 with rfl | rfl | rfl | rfl <;> rfl)
  have eT : st'.mT.ren (moved r 10) = st'.mT.ren (mvM r) := inv.t.ren2 (by rcases case0 with rfl | rfl | rfl | rfl <;> rfl)
  have eQ : st'.q.ren (moved r 10) = st'.q.ren (mvM r) := inv.q.ren2 (by rcases case0 with rfl | rfl | rfl | rfl <;> rfl)
  rw [eS, eT, eQ] at hs
  refine canM W W2 hs inv hc ho h90 h95 (mvM r) m0 m9 rfl rfl ?_ ?_ rfl rfl ?_ ?_ ?_ ?_ ?_ ?_ ⟨.inr (.inl ho.fr), .inr (.inl h14), .inr (.inl hc.fr), .inr (.inl h12), .inr (.inl h11), .inr (.inl af.fN), ?_, ?_, .inr (.inr ⟨4, by simp, m4⟩), ?_, ?_, ?_, .inr (.inr ⟨9, by simp, m9⟩), .inr (.inr ⟨0, by simp, m0⟩), trivial⟩ rfl (show 10 ≤ 16 by decide) (fun b h1 h2 => ?_) ?_
  · rcases case0 with rfl | rfl | rfl | rfl <;> decide
  · rcases case0 with rfl | rfl | rfl | rfl <;> decide
  · rcases case0 with rfl | rfl | rfl | rfl
    · rw [← af.e1 (by decide)]; rfl
    · rw [← af.n1 rfl]; rfl
    · rw [← af.e1 (by decide)]; rfl
    · rw [← af.e1 (by decide)]; rfl
  · rcases case0 with rfl | rfl | rfl | rfl
    · rw [← af.e2 (by decide)]; rfl
    · rw [← af.e2 (by decide)]; rfl
    · rw [← af.n2 rfl]; rfl
    · rw [← af.e2 (by decide)]; rfl
  · rcases case0 with rfl | rfl | rfl | rfl
    · rw [← af.e3 (by decide)]; rfl
    · rw [← af.e3 (by decide)]; rfl
    · rw [← af.e3 (by decide)]; rfl
    · rw [← af.n3 rfl]; rfl
  · rw [m4]; rfl
  · rw [m5]; rfl
  · rw [m6]; rfl
  · exact h6.elim .inl (fun h => .inr (.inl h))
  · exact h5.elim .inl (fun h => .inr (.inl h))
  · exact af.f3.elim .inl (fun h => .inr (.inl h))
  · exact af.f2.elim .inl (fun h => .inr (.inl h))
  · exact af.f1.elim .inl (fun h => .inr (.inl h))
  · have h1 : b < 10 := h1
    have hb : b = 0 ∨ b = 9 ∨ b = 7 ∨ b = 8 := by
      simp at h2
      omega
    rcases hb with rfl | rfl | rfl | rfl <;> rfl
  · rw [m4]
    show seesT _ _ ([lA, tA, uu, uu, .nilSlice, .nilSlice, .ptr 4 0, .osl (mvM r 5) 0 (i + 1) 9, .osl (mvM r 6) 0 (i + 1) 1, .int .i64 (Int.ofNat st), .int .i64 (Int.ofNat (i + 1))] ++ List.replicate 79 uu ++ [x90] ++ List.replicate 4 uu ++ [x95] ++ List.replicate 8 uu) ts1
    rw [m5, m6]
    exact hts
theorem m_step {i : Nat} (hi : i < n) {S T : Option (List (Int × Int))} {Q : Option (List Int × Nat)} {st : S3} (inv : Inv3 S T Q st) (hq : qlen Q ≤ i) (hrep : rep S T Q = psM f i) {cv ov x90 x95 : AV} {oC oO : AObj} (hc : MC i (LF f τ i) cv oC) (ho : MR i (List.range i) ov oO) :
    ∃ S' T' Q' st' oC' oO' x90' x95', Inv3 S' T' Q' st' ∧ rep S' T' Q' = psM f (i + 1) ∧ qlen Q' ≤ i + 1 ∧ MC (i + 1) (LF f τ (i + 1)) (.osl 5 0 (i + 1) 9) oC' ∧ MR (i + 1) (List.range (i + 1)) (.osl 6 0 (i + 1) 1) oO' ∧ X12 x90' ∧ X12 x95' ∧
      Go.Mini.Good Try.prog [(9, trow), (0, row)] (CMd st oC oO row trow) [6, 5, 4, 3, 2, 1] (TM lA tA cv ov x90 x95 (stM τ i) i) (loopAt Try.prog 24 0) .normal (TM lA tA (.osl 5 0 (i + 1) 9) (.osl 6 0 (i + 1) 1) x90' x95' (stM τ (i + 1)) (i + 1)) (CMd st' oC' oO' row trow) [6, 5, 4, 3, 2, 1] := by
  obtain ⟨a, hidx, hld⟩ := W.at_ i hi
  have hsm := W.small
  have hop := opM_q (W.op i hi)
  have hge := stM_ge τ i
  have hle := stM_le τ i
  have hby := W2.byte i
  have hs1 : stM τ (i + 1) = stM τ i + 1 + τ i % 3 := rfl
  obtain ⟨S', T', Q', st', r, x1, x2, x3, xN, q1, q2, q3, q4, q5⟩ := doAll (s := CMd st oC oO row trow) (k := (f i).2.1) (v := (f i).2.2) inv rfl rfl rfl rfl (opM_lt f i) (by omega)
  rw [hrep] at q2 q5
  have lt := ltq i n true (by simpa using hi)
  have hLl : (LF f τ i).length = i := LF_len f τ i
  have b1 := fun s h => (hld s h).1
  have b2 := fun s h => (hld s h).2.1
  have b3 := fun s h => (hld s h).2.2
  have a1 := wq (n := stM τ i + 1) (Int.ofNat (stM τ i + 1)) rfl (by omega)
  have a2 := wq (n := τ i) (Int.ofNat (τ i)) rfl (by omega)
  have a3 := wq (n := stM τ i + 1 + τ i % 3) (Int.ofNat (stM τ i + 1 + τ i % 3)) rfl (by omega)
  have a4 := wq (n := τ i / 3) (Int.ofNat (τ i / 3)) rfl (by omega)
  have a5 := sub_q (a := stM τ i + 1 + τ i % 3) (b := τ i / 3 % 9) (n := stM τ i + 1 + τ i % 3 - τ i / 3 % 9) (by omega) rfl (by omega)
  have a6 := wq (n := τ i / 27) (Int.ofNat (τ i / 27)) rfl (by omega)
  have a7 := wq (n := stM τ i + 1 + τ i % 3 + τ i / 27 % 9) (Int.ofNat (stM τ i + 1 + τ i % 3 + τ i / 27 % 9)) rfl (by omega)
  have a8 := wq (n := i + 1) (Int.ofNat (i + 1)) rfl (by omega)
  have z90 : ∀ to : Int, X12 (.agg (callC (zC f τ i to))) := fun to => .inr ⟨_, rfl⟩
  have fz : ∀ to : Int, Free (.cells false (callC (zC f τ i to))) := fun to => ⟨rfl, rfl⟩
  have fi : Free (.cells false [.int .i64 (Int.ofNat i)]) := ⟨rfl, rfl⟩
  have hR : ∀ z, toM τ i = z → MC (i + 1) (LF f τ (i + 1)) (.osl 5 0 (i + 1) 9) (.cells false (rowsOf callC (LF f τ i ++ [zC f τ i z]))) := fun z hz => .inr ⟨by omega, rfl, by rw [LF_succ, callM_z, hz], LF_len f τ (i + 1)⟩
  have hO : MR (i + 1) (List.range (i + 1)) (.osl 6 0 (i + 1) 1) (.cells false (nc (List.range i ++ [i]))) := .inr ⟨by omega, rfl, by rw [List.range_succ], by simp⟩
  have app1 : ∀ (z : Int) (s : AS) (ro : Bool), s.get 5 = some (.cells false (rowsOf callC (LF f τ i))) → s.get 12 = some (.cells ro (callC (zC f τ i z))) → appendA Try.prog s 50 50 (.osl 5 0 i 9) (.slice 12 0 1 1) = some (.osl s.nx 0 (i + 1) 9, (s.set 5 .dead).push (.cells false (rowsOf callC (LF f τ i ++ [zC f τ i z])))) := fun z s ro h5 h12 => by
    have := app_calls h5 h12 (by rw [hLl]; omega)
    rw [hLl] at this
    exact this
  have app2 : ∀ (s : AS) (ro : Bool), s.get 6 = some (.cells false (nc (List.range i))) → s.get 14 = some (.cells ro [.int .i64 (Int.ofNat i)]) → appendA Try.prog s 57 57 (.osl 6 0 i 1) (.slice 14 0 1 1) = some (.osl s.nx 0 (i + 1) 1, (s.set 6 .dead).push (.cells false (nc (List.range i ++ [i])))) := fun s ro h6 h14 => by
    have := app_n (c2 := 1) h6 h14 (by simp; omega)
    simpa using this
  rcases hc with ⟨hz, rfl, hc2⟩ | ⟨hz, rfl, rfl, _⟩
  · rcases ho with ⟨_, rfl, ho2⟩ | ⟨h, _⟩
    · subst hz
      by_cases ht : 0 < nt
      · obtain ⟨b, tidx, tld⟩ := W2.at_ 0 ht
        by_cases hf : τ 0 = 255
        · refine ⟨S', T', Q', st', _, _, _, _, q1, q2, by omega, hR (Int.negSucc 0) (by unfold toM; rw [if_pos hf]), hO, z90 (Int.ofNat (stM τ (0 + 1) + τ 0 / 27 % 9)), z90 (Int.negSucc 0), canM2 W W2 q1 q4 (hR (Int.negSucc 0) (by unfold toM; rw [if_pos hf])) hO (z90 _) (z90 _) (fz (Int.negSucc 0)) (fz (Int.negSucc 0)) fi (.inr hc2) (.inr ho2) (runX_sound mixed none_sound (m_fn lA tA .nilSlice .nilSlice x90 x95 st.mS st.mT st.q _ _ _ n nt 0 a b (stM τ 0) (τ 0) 0 (stM τ 0 + 1) (τ 0 % 3) (stM τ 0 + 1 + τ 0 % 3) 0 0 (0 % 16) (τ 0 / 3) (τ 0 / 3 % 9) (stM τ 0 + 1 + τ 0 % 3 - τ 0 / 3 % 9) (τ 0 / 27) (τ 0 / 27 % 9) (stM τ 0 + 1 + τ 0 % 3 + τ 0 / 27 % 9) (f 0).1 (Int.ofNat (opM f 0)) (f 0).2.1 (f 0).2.2 (Int.ofNat (ansM f 0).1) (ansM f 0).2 st.oS st.oT st.oQ oC oO x1 x2 x3 xN (.cells false (rowsOf callC (LF f τ 0 ++ [zC f τ 0 (Int.negSucc 0)]))) (.cells false (nc (List.range 0 ++ [0]))) row trow) ⟨W.len _, lt, W2.len _, ltq 0 nt true (by simp; omega), tidx, tld _ rfl, a1, a2, rfl, a3, hidx, b1 _ rfl, hop, hidx, b2 _ rfl, hidx, b3 _ rfl, q5, rfl, hidx, b1 _ rfl, hop, hidx, b2 _ rfl, hidx, b3 _ rfl, a2, a4, rfl, a5, a2, a6, rfl, a7, eqN (by simpa using hf), a8, trivial⟩) ?_⟩
          repeat (first | exact rfl | refine ⟨_, _, rfl, ?_, ?_⟩ | exact .inr ⟨rfl, rfl⟩ | exact .inl ⟨rfl, rfl⟩ | exact .inl ⟨W.na.1.symm, W.na.2⟩ | exact .inl ⟨W2.na.1.symm, W2.na.2⟩ | exact see_same _)
        · refine ⟨S', T', Q', st', _, _, _, _, q1, q2, by omega, hR (Int.ofNat (stM τ (0 + 1) + τ 0 / 27 % 9)) (by unfold toM; rw [if_neg hf]), hO, z90 (Int.ofNat (stM τ (0 + 1) + τ 0 / 27 % 9)), z90 (Int.ofNat (stM τ (0 + 1) + τ 0 / 27 % 9)), canM2 W W2 q1 q4 (hR (Int.ofNat (stM τ (0 + 1) + τ 0 / 27 % 9)) (by unfold toM; rw [if_neg hf])) hO (z90 _) (z90 _) (fz (Int.ofNat (stM τ (0 + 1) + τ 0 / 27 % 9))) (fz (Int.ofNat (stM τ (0 + 1) + τ 0 / 27 % 9))) fi (.inr hc2) (.inr ho2) (runX_sound mixed none_sound (m_tn lA tA .nilSlice .nilSlice x90 x95 st.mS st.mT st.q _ _ _ n nt 0 a b (stM τ 0) (τ 0) 0 (stM τ 0 + 1) (τ 0 % 3) (stM τ 0 + 1 + τ 0 % 3) 0 0 (0 % 16) (τ 0 / 3) (τ 0 / 3 % 9) (stM τ 0 + 1 + τ 0 % 3 - τ 0 / 3 % 9) (τ 0 / 27) (τ 0 / 27 % 9) (stM τ 0 + 1 + τ 0 % 3 + τ 0 / 27 % 9) (f 0).1 (Int.ofNat (opM f 0)) (f 0).2.1 (f 0).2.2 (Int.ofNat (ansM f 0).1) (ansM f 0).2 st.oS st.oT st.oQ oC oO x1 x2 x3 xN (.cells false (rowsOf callC (LF f τ 0 ++ [zC f τ 0 (Int.ofNat (stM τ (0 + 1) + τ 0 / 27 % 9))]))) (.cells false (nc (List.range 0 ++ [0]))) row trow) ⟨W.len _, lt, W2.len _, ltq 0 nt true (by simp; omega), tidx, tld _ rfl, a1, a2, rfl, a3, hidx, b1 _ rfl, hop, hidx, b2 _ rfl, hidx, b3 _ rfl, q5, rfl, hidx, b1 _ rfl, hop, hidx, b2 _ rfl, hidx, b3 _ rfl, a2, a4, rfl, a5, a2, a6, rfl, a7, eqN (by simpa using hf), a8, trivial⟩) ?_⟩
          repeat (first | exact rfl | refine ⟨_, _, rfl, ?_, ?_⟩ | exact .inr ⟨rfl, rfl⟩ | exact .inl ⟨rfl, rfl⟩ | exact .inl ⟨W.na.1.symm, W.na.2⟩ | exact .inl ⟨W2.na.1.symm, W2.na.2⟩ | exact see_same _)
      · have h3 := W2.else_ 0 (by omega)
        refine ⟨S', T', Q', st', _, _, _, _, q1, q2, by omega, hR (Int.ofNat (stM τ (0 + 1) + τ 0 / 27 % 9)) (by unfold toM; rw [if_neg (by omega)]), hO, z90 (Int.ofNat (stM τ (0 + 1) + τ 0 / 27 % 9)), z90 (Int.ofNat (stM τ (0 + 1) + τ 0 / 27 % 9)), canM2 W W2 q1 q4 (hR (Int.ofNat (stM τ (0 + 1) + τ 0 / 27 % 9)) (by unfold toM; rw [if_neg (by omega)])) hO (z90 _) (z90 _) (fz (Int.ofNat (stM τ (0 + 1) + τ 0 / 27 % 9))) (fz (Int.ofNat (stM τ (0 + 1) + τ 0 / 27 % 9))) fi (.inr hc2) (.inr ho2) (runX_sound mixed none_sound (m_dn lA tA .nilSlice .nilSlice x90 x95 st.mS st.mT st.q _ _ _ n nt 0 a 0 (stM τ 0) (τ 0) 0 (stM τ 0 + 1) (τ 0 % 3) (stM τ 0 + 1 + τ 0 % 3) 0 0 (0 % 16) (τ 0 / 3) (τ 0 / 3 % 9) (stM τ 0 + 1 + τ 0 % 3 - τ 0 / 3 % 9) (τ 0 / 27) (τ 0 / 27 % 9) (stM τ 0 + 1 + τ 0 % 3 + τ 0 / 27 % 9) (f 0).1 (Int.ofNat (opM f 0)) (f 0).2.1 (f 0).2.2 (Int.ofNat (ansM f 0).1) (ansM f 0).2 st.oS st.oT st.oQ oC oO x1 x2 x3 xN (.cells false (rowsOf callC (LF f τ 0 ++ [zC f τ 0 (Int.ofNat (stM τ (0 + 1) + τ 0 / 27 % 9))]))) (.cells false (nc (List.range 0 ++ [0]))) row trow) ⟨W.len _, lt, congrArg (fun z => some (AV.int .u8 (Int.ofNat z))) (W2.else_ 0 (by omega)).symm, W2.len _, ltq 0 nt false (by simp; omega), a1, a2, rfl, a3, hidx, b1 _ rfl, hop, hidx, b2 _ rfl, hidx, b3 _ rfl, q5, rfl, hidx, b1 _ rfl, hop, hidx, b2 _ rfl, hidx, b3 _ rfl, a2, a4, rfl, a5, a2, a6, rfl, a7, eqN (by simp; omega), a8, trivial⟩) ?_⟩
        repeat (first | exact rfl | refine ⟨_, _, rfl, ?_, ?_⟩ | exact .inr ⟨rfl, rfl⟩ | exact .inl ⟨rfl, rfl⟩ | exact .inl ⟨W.na.1.symm, W.na.2⟩ | exact .inl ⟨W2.na.1.symm, W2.na.2⟩ | exact see_same _)
    · exact absurd h (by omega)
  · rcases ho with ⟨h, _⟩ | ⟨_, rfl, rfl, _⟩
    · exact absurd h (by omega)
    · by_cases ht : i < nt
      · obtain ⟨b, tidx, tld⟩ := W2.at_ i ht
        by_cases hf : τ i = 255
        · refine ⟨S', T', Q', st', _, _, _, _, q1, q2, by omega, hR (Int.negSucc 0) (by unfold toM; rw [if_pos hf]), hO, z90 (Int.ofNat (stM τ (i + 1) + τ i / 27 % 9)), z90 (Int.negSucc 0), canM2 W W2 q1 q4 (hR (Int.negSucc 0) (by unfold toM; rw [if_pos hf])) hO (z90 _) (z90 _) (fz (Int.negSucc 0)) (fz (Int.negSucc 0)) fi (.inl rfl) (.inl rfl) (runX_sound mixed none_sound (m_fs lA tA .nilSlice .nilSlice x90 x95 st.mS st.mT st.q _ _ _ n nt i a b (stM τ i) (τ i) i (stM τ i + 1) (τ i % 3) (stM τ i + 1 + τ i % 3) 0 0 (i % 16) (τ i / 3) (τ i / 3 % 9) (stM τ i + 1 + τ i % 3 - τ i / 3 % 9) (τ i / 27) (τ i / 27 % 9) (stM τ i + 1 + τ i % 3 + τ i / 27 % 9) (f i).1 (Int.ofNat (opM f i)) (f i).2.1 (f i).2.2 (Int.ofNat (ansM f i).1) (ansM f i).2 st.oS st.oT st.oQ (.cells false (rowsOf callC (LF f τ i))) (.cells false (nc (List.range i))) x1 x2 x3 xN (.cells false (rowsOf callC (LF f τ i ++ [zC f τ i (Int.negSucc 0)]))) (.cells false (nc (List.range i ++ [i]))) row trow) ⟨W.len _, lt, W2.len _, ltq i nt true (by simp; omega), tidx, tld _ rfl, a1, a2, rfl, a3, hidx, b1 _ rfl, hop, hidx, b2 _ rfl, hidx, b3 _ rfl, q5, rfl, hidx, b1 _ rfl, hop, hidx, b2 _ rfl, hidx, b3 _ rfl, a2, a4, rfl, a5, a2, a6, rfl, a7, eqN (by simpa using hf), app1 (Int.negSucc 0) _ _ rfl rfl, app2 _ _ rfl rfl, a8, trivial⟩) ?_⟩
          repeat (first | exact rfl | refine ⟨_, _, rfl, ?_, ?_⟩ | exact .inr ⟨rfl, rfl⟩ | exact .inl ⟨rfl, rfl⟩ | exact .inl ⟨W.na.1.symm, W.na.2⟩ | exact .inl ⟨W2.na.1.symm, W2.na.2⟩ | exact see_same _)
        · refine ⟨S', T', Q', st', _, _, _, _, q1, q2, by omega, hR (Int.ofNat (stM τ (i + 1) + τ i / 27 % 9)) (by unfold toM; rw [if_neg hf]), hO, z90 (Int.ofNat (stM τ (i + 1) + τ i / 27 % 9)), z90 (Int.ofNat (stM τ (i + 1) + τ i / 27 % 9)), canM2 W W2 q1 q4 (hR (Int.ofNat (stM τ (i + 1) + τ i / 27 % 9)) (by unfold toM; rw [if_neg hf])) hO (z90 _) (z90 _) (fz (Int.ofNat (stM τ (i + 1) + τ i / 27 % 9))) (fz (Int.ofNat (stM τ (i + 1) + τ i / 27 % 9))) fi (.inl rfl) (.inl rfl) (runX_sound mixed none_sound (m_ts lA tA .nilSlice .nilSlice x90 x95 st.mS st.mT st.q _ _ _ n nt i a b (stM τ i) (τ i) i (stM τ i + 1) (τ i % 3) (stM τ i + 1 + τ i % 3) 0 0 (i % 16) (τ i / 3) (τ i / 3 % 9) (stM τ i + 1 + τ i % 3 - τ i / 3 % 9) (τ i / 27) (τ i / 27 % 9) (stM τ i + 1 + τ i % 3 + τ i / 27 % 9) (f i).1 (Int.ofNat (opM f i)) (f i).2.1 (f i).2.2 (Int.ofNat (ansM f i).1) (ansM f i).2 st.oS st.oT st.oQ (.cells false (rowsOf callC (LF f τ i))) (.cells false (nc (List.range i))) x1 x2 x3 xN (.cells false (rowsOf callC (LF f τ i ++ [zC f τ i (Int.ofNat (stM τ (i + 1) + τ i / 27 % 9))]))) (.cells false (nc (List.range i ++ [i]))) row trow) ⟨W.len _, lt, W2.len _, ltq i nt true (by simp; omega), tidx, tld _ rfl, a1, a2, rfl, a3, hidx, b1 _ rfl, hop, hidx, b2 _ rfl, hidx, b3 _ rfl, q5, rfl, hidx, b1 _ rfl, hop, hidx, b2 _ rfl, hidx, b3 _ rfl, a2, a4, rfl, a5, a2, a6, rfl, a7, eqN (by simpa using hf), app1 (Int.ofNat (stM τ (i + 1) + τ i / 27 % 9)) _ _ rfl rfl, app2 _ _ rfl rfl, a8, trivial⟩) ?_⟩
          repeat (first | exact rfl | refine ⟨_, _, rfl, ?_, ?_⟩ | exact .inr ⟨rfl, rfl⟩ | exact .inl ⟨rfl, rfl⟩ | exact .inl ⟨W.na.1.symm, W.na.2⟩ | exact .inl ⟨W2.na.1.symm, W2.na.2⟩ | exact see_same _)
      · have h3 := W2.else_ i (by omega)
        refine ⟨S', T', Q', st', _, _, _, _, q1, q2, by omega, hR (Int.ofNat (stM τ (i + 1) + τ i / 27 % 9)) (by unfold toM; rw [if_neg (by omega)]), hO, z90 (Int.ofNat (stM τ (i + 1) + τ i / 27 % 9)), z90 (Int.ofNat (stM τ (i + 1) + τ i / 27 % 9)), canM2 W W2 q1 q4 (hR (Int.ofNat (stM τ (i + 1) + τ i / 27 % 9)) (by unfold toM; rw [if_neg (by omega)])) hO (z90 _) (z90 _) (fz (Int.ofNat (stM τ (i + 1) + τ i / 27 % 9))) (fz (Int.ofNat (stM τ (i + 1) + τ i / 27 % 9))) fi (.inl rfl) (.inl rfl) (runX_sound mixed none_sound (m_ds lA tA .nilSlice .nilSlice x90 x95 st.mS st.mT st.q _ _ _ n nt i a 0 (stM τ i) (τ i) i (stM τ i + 1) (τ i % 3) (stM τ i + 1 + τ i % 3) 0 0 (i % 16) (τ i / 3) (τ i / 3 % 9) (stM τ i + 1 + τ i % 3 - τ i / 3 % 9) (τ i / 27) (τ i / 27 % 9) (stM τ i + 1 + τ i % 3 + τ i / 27 % 9) (f i).1 (Int.ofNat (opM f i)) (f i).2.1 (f i).2.2 (Int.ofNat (ansM f i).1) (ansM f i).2 st.oS st.oT st.oQ (.cells false (rowsOf callC (LF f τ i))) (.cells false (nc (List.range i))) x1 x2 x3 xN (.cells false (rowsOf callC (LF f τ i ++ [zC f τ i (Int.ofNat (stM τ (i + 1) + τ i / 27 % 9))]))) (.cells false (nc (List.range i ++ [i]))) row trow) ⟨W.len _, lt, congrArg (fun z => some (AV.int .u8 (Int.ofNat z))) (W2.else_ i (by omega)).symm, W2.len _, ltq i nt false (by simp; omega), a1, a2, rfl, a3, hidx, b1 _ rfl, hop, hidx, b2 _ rfl, hidx, b3 _ rfl, q5, rfl, hidx, b1 _ rfl, hop, hidx, b2 _ rfl, hidx, b3 _ rfl, a2, a4, rfl, a5, a2, a6, rfl, a7, eqN (by simp; omega), app1 (Int.ofNat (stM τ (i + 1) + τ i / 27 % 9)) _ _ rfl rfl, app2 _ _ rfl rfl, a8, trivial⟩) ?_⟩
        repeat (first | exact rfl | refine ⟨_, _, rfl, ?_, ?_⟩ | exact .inr ⟨rfl, rfl⟩ | exact .inl ⟨rfl, rfl⟩ | exact .inl ⟨W.na.1.symm, W.na.2⟩ | exact .inl ⟨W2.na.1.symm, W2.na.2⟩ | exact see_same _)
end
end Go.Proofs.Ythooafgfpnedhaa.specsWitness
