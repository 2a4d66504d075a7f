/- One step of the Judge of the document. Conditions: those that each theorem names, and no others. -/
import Derived.Test.YthooafgfpnedhaaJud34
namespace Go.Proofs.Ythooafgfpnedhaa.specsJudge
open Go Go.Mini
/-! ### the document's Judge -/
/-- The first call that does not fit, by the document's Do. -/
def judgeD (f : Nat → Call9) (opN : Nat → Nat) : List Nat → DP → Option Nat
  | [], _ => none
  | d :: D, ds => if badF (f d) (stepD ds (opN d) (kF (f d)) (vF (f d))).1 then some d else judgeD f opN D (stepD ds (opN d) (kF (f d)) (vF (f d))).2
theorem delL_le (l : List Pr) (k : Int) : (delL l k).length ≤ l.length := by
  unfold delL
  simp
  omega
theorem popD_len (ds : DP) : (popD ds).2.1 = ds.1 ∧ (popD ds).2.2.1 = ds.2.1 ∧ (popD ds).2.2.2.length ≤ ds.2.2.length := by
  unfold popD
  split
  · exact ⟨rfl, rfl, Nat.le_refl _⟩
  · rename_i x Q h
    refine ⟨rfl, rfl, ?_⟩
    rw [h]
    exact Nat.le_succ _
theorem stepD_len (ds : DP) (op : Nat) (k v : Int) : (stepD ds op k v).2.1.length ≤ ds.1.length + 1 ∧ (stepD ds op k v).2.2.1.length ≤ ds.2.1.length + 1 ∧ (stepD ds op k v).2.2.2.length ≤ ds.2.2.length + 1 := by
  have d1 := delL_le ds.1 k
  have d2 := delL_le ds.2.1 k
  have i1 := insL_len ds.1 k 0
  have i2 := insL_len ds.2.1 k v
  obtain ⟨p1, p2, p3⟩ := popD_len ds
  unfold stepD
  split
  · split <;> refine ⟨?_, ?_, ?_⟩ <;> simp only <;> omega
  · split <;> refine ⟨?_, ?_, ?_⟩ <;> simp only <;> omega
  · exact ⟨Nat.le_succ _, Nat.le_succ _, Nat.le_succ _⟩
  · refine ⟨Nat.le_succ _, Nat.le_succ _, ?_⟩
    simp
  · rw [p1, p2]
    exact ⟨Nat.le_succ _, Nat.le_succ _, by omega⟩
  · split <;> refine ⟨?_, ?_, ?_⟩ <;> simp only <;> omega
  · split <;> refine ⟨?_, ?_, ?_⟩ <;> simp only <;> omega
  · split <;> exact ⟨Nat.le_succ _, Nat.le_succ _, Nat.le_succ _⟩
  · exact ⟨Nat.le_succ _, Nat.le_succ _, Nat.le_succ _⟩
def XO (x : AV) : Prop := x = undefA ∨ ∃ z : Call9, x = .agg (callO z)
theorem XO.ren {x : AV} (h : XO x) (π : Nat → Nat) : x.ren π = x := by
  rcases h with rfl | ⟨z, rfl⟩ <;> rfl
theorem XO.nm {x : AV} (h : XO x) (p : Nat → Bool) : x.names p = true := by
  rcases h with rfl | ⟨z, rfl⟩ <;> rfl
theorem ovD_ren (D : List Nat) (π : Nat → Nat) (b : Nat) : (ovD D b).ren π = ovD D (π b) := by
  unfold ovD
  split <;> rfl
theorem ovD_nm (D : List Nat) {b n : Nat} (h : b < n) : (ovD D b).names (fun c => Nat.blt c n) = true := by
  unfold ovD
  split
  · rfl
  · simpa [AV.names] using h
theorem ovD_na (D : List Nat) (b : Nat) : junkOf (ovD D b) = uu ∧ junkable (ovD D b) = true := by
  unfold ovD
  split <;> exact ⟨rfl, rfl⟩
theorem ovD_idx {D : List Nat} {i : Nat} (hi : i < D.length) : (Qst.idx 57 (ovD D 5) (.int .i64 (Int.ofNat i)) (.ptr 5 i)).ok Try.prog ∧ ∀ s : AS, s.get 5 = some (oWit D) → (Qst.ld 3 s (.ptr 5 i) (.int .i64 (Int.ofNat D[i]))).ok Try.prog := by
  have hD : D ≠ [] := fun e => by subst e; simp at hi
  rw [show ovD D 5 = .osl 5 0 D.length 1 from if_neg hD, show oWit D = .cells false (nc D) from if_neg hD]
  exact ⟨idx57 hi, fun s hs => ld_nc (List.getElem?_eq_getElem hi) hs⟩
theorem ovD_ln (D : List Nat) (s : AS) : (Qst.ln 57 s (ovD D 5) (.int .i64 (Int.ofNat D.length))).ok Try.prog := by
  unfold ovD
  split
  · rename_i h
    subst h
    simp only [Qst.ok, lenA, t57]
    rfl
  · simp only [Qst.ok, lenA, t57]
    rfl
theorem no_names {t : AV} (h : t.names (fun _ => false) = true) (π : Nat → Nat) : t.ren π = t := by rw [ren_congr (p := fun _ => false) (π' := fun b => b) (fun _ h => by cases h) h, ren_id]
section
variable {A : List Call9} {n : Nat} {D : List Nat}
theorem rensTK {x24 t2 t3 : AV} (h24 : XO x24) (h2 : t2.names (fun _ => false) = true) (h3 : t3.names (fun _ => false) = true) (π : Nat → Nat) (h0 : π 0 = 0) (h4 : π 4 = 4) (h5 : π 5 = 5) (i : Nat) : rens π (TK (.osl 0 0 n 9) (ovD D 5) x24 t2 t3 i) = TK (.osl 0 0 n 9) (ovD D 5) x24 t2 t3 i := by
  show [.osl (π 0) 0 n 9, uu, t2.ren π, t3.ren π, .ptr (π 4) 0, (ovD D 5).ren π, .int .i64 (Int.ofNat i), uu, uu, uu, uu, uu, uu, uu, uu, uu, uu, uu, uu, uu, uu, uu, uu, uu, x24.ren π] ++ rens π (List.replicate 43 uu) = _
  rw [h0, no_names h2, no_names h3, h4, ovD_ren, h5, h24.ren, rensW]
  rfl
theorem namesTK {x24 t2 t3 : AV} (h24 : XO x24) (h2 : t2.names (fun _ => false) = true) (h3 : t3.names (fun _ => false) = true) (i : Nat) : namess (fun b => Nat.blt b 6) (TK (.osl 0 0 n 9) (ovD D 5) x24 t2 t3 i) = true := by
  have no : ∀ {t : AV}, t.names (fun _ => false) = true → t.names (fun b => Nat.blt b 6) = true := fun h => names_sub (fun _ h => by cases h) h
  show (true && (true && (t2.names _ && (t3.names _ && (true && ((ovD D 5).names _ && (true && (true && (true && (true && (true && (true && (true && (true && (true && (true && (true && (true && (true && (true && (true && (true && (true && (true && (x24.names _ && namess _ (List.replicate 43 uu)))))))))))))))))))))))))) = true
  rw [no h2, no h3, ovD_nm D (show 5 < 6 by decide), h24.nm]
  rfl
theorem freeWitD (D : List Nat) : Free (oWit D) := freeWit D
theorem canK {ds' : DP} {st' : S3} (inv : InvD ds' st') {r nn : Nat} {x1 x2 x3 xA xB cp : AObj} (af : AfterD st' r nn x1 x2 x3 xA xB) (hcp : Free cp) {x24 t2 t3 : AV} (h24 : XO x24) (h2 : t2.names (fun _ => false) = true) (h3 : t3.names (fun _ => false) = true)
    {st : S3} {T ts1 : List AV} {c : Code} {e : AExit} {i : Nat}
    (hs : Sound Try.prog (.code c T (canS (bsJ st (oWit D)) (co A) 6 6)) ⟨e, ts1, UN cp (oWit D) (co A) [st'.mS.ren (moved r nn), st'.mT.ren (moved r nn), st'.q.ren (moved r nn)] x1 x2 x3 xA xB⟩)
    (hts : seesT (fun b => b) (fun _ => true) (TK (.osl 0 0 n 9) (ovD D 5) x24 t2 t3 i) ts1) :
    Go.Mini.Good Try.prog [(0, co A)] (canS (bsJ st (oWit D)) (co A) 6 6) [5, 4, 3, 2, 1] T c e (TK (.osl 0 0 n 9) (ovD D 5) x24 t2 t3 i) (canS (bsJ st' (oWit D)) (co A) 6 6) [5, 4, 3, 2, 1] := by
  have only : ∀ b, b < 6 → b ∉ [5, 4, 3, 2, 1] → b = 0 := fun b h1 h2 => by simp at h2; omega
  have hw := freeWit D
  have nS : st'.mS.names (fun c => Nat.blt c 6) = true := by rw [inv.s.1]; exact lv_nm _ (by decide)
  have nT : st'.mT.names (fun c => Nat.blt c 6) = true := by rw [inv.t.1]; exact lv_nm _ (by decide)
  have nQ : st'.q.names (fun c => Nat.blt c 6) = true := by rw [inv.q.1]; exact qD_nm _ (by decide)
  have c0 := af.le
  have c1 := af.hn
  have m0 : moved r nn 0 = 0 := by rcases c0 with rfl | rfl | rfl | rfl <;> rfl
  have m4 : moved r nn 4 = 4 := by rcases c0 with rfl | rfl | rfl | rfl <;> rfl
  have m5 : moved r nn 5 = 5 := by rcases c0 with rfl | rfl | rfl | rfl <;> rfl
  refine Good.can (bsC := bsJ st' (oWit D)) (nxC := 6) hs noG (moved r nn) m0 (names_co _ _) ⟨⟨show 0 < 5 by decide, show 5 < 6 by decide, rfl, hw.1, hw.nm _, ?_⟩, ⟨show 0 < 4 by decide, show 4 < 6 by decide, rfl, rfl, and2 nS (and2 nT (and2 nQ rfl)), ?_⟩, ⟨show 0 < 3 by decide, show 3 < 6 by decide, rfl, inv.q.2.1.1, inv.q.2.1.nm _, ?_⟩, ⟨show 0 < 2 by decide, show 2 < 6 by decide, rfl, inv.t.2.1.1, inv.t.2.1.nm _, ?_⟩, ⟨show 0 < 1 by decide, show 1 < 6 by decide, rfl, inv.s.2.1.1, inv.s.2.1.nm _, ?_⟩, trivial⟩
    (show [5, 4, 3, 2, 1].Nodup by decide) ?_ ?_ rfl ⟨.inr (.inl af.fB), .inr (.inl af.fA), .inr (.inl hcp), .inr (.inl hw), .inr (.inr ⟨4, .inr (by simp [bsJ]), m4⟩), af.f3.elim .inl (fun h => .inr (.inl h)), .inr (.inl af.f2), .inr (.inl af.f1), .inr (.inr ⟨0, .inl rfl, m0⟩), trivial⟩ rfl (show 6 ≤ 9 by decide) (by decide) (fun c hc h => .inl ?_) (fun b h1 h2 => by rw [only b h1 h2]; rfl) ?_ (namesTK h24 h2 h3 i)
  · rw [m5, hw.ren]
    rfl
  · rw [m4]
    rfl
  · rw [inv.q.2.1.ren]
    rcases c0 with rfl | rfl | rfl | rfl
    · rw [← af.e3 (by decide)]; rfl
    · rw [← af.e3 (by decide)]; rfl
    · rw [← af.e3 (by decide)]; rfl
    · have := af.n3 rfl
      rcases c1 with rfl | rfl
      · rw [← this]; rfl
      · rw [← this]; rfl
  · rw [inv.t.2.1.ren]
    rcases c0 with rfl | rfl | rfl | rfl
    · rw [← af.e2 (by decide)]; rfl
    · rw [← af.e2 (by decide)]; rfl
    · have := af.n2 rfl
      rcases c1 with rfl | rfl
      · rw [← this]; rfl
      · rw [← this]; rfl
    · rw [← af.e2 (by decide)]; rfl
  · rw [inv.s.2.1.ren]
    rcases c0 with rfl | rfl | rfl | rfl
    · rw [← af.e1 (by decide)]; rfl
    · have := af.n1 rfl
      rcases c1 with rfl | rfl
      · rw [← this]; rfl
      · rw [← this]; rfl
    · rw [← af.e1 (by decide)]; rfl
    · rw [← af.e1 (by decide)]; rfl
  · show ∀ b ∈ [5, 4, 3, 2, 1], ∀ c ∈ [5, 4, 3, 2, 1], moved r nn b = moved r nn c → b = c
    rcases c0 with rfl | rfl | rfl | rfl <;> rcases c1 with rfl | rfl <;> decide
  · show ∀ c ∈ [5, 4, 3, 2, 1], moved r nn c ≠ 0
    rcases c0 with rfl | rfl | rfl | rfl <;> rcases c1 with rfl | rfl <;> decide
  · show c ∈ [5, 4, 3, 2, 1]
    simp
    omega
  · rw [rensTK h24 h2 h3 _ m0 m4 m5]
    exact hts
end
section
variable {A : List Call9} {D : List Nat} {opN : Nat → Nat} (hop : ∀ d, d < A.length → (fA A d).2.1 = Int.ofNat (opN d))
include hop
theorem u_step (hD : ∀ d ∈ D, d < A.length) (hl : D.length ≤ 1000) {ds : DP} {st : S3} (inv : InvD ds st) {x24 : AV} {i : Nat} (hi : i < D.length) (hS : ds.1.length ≤ i) (hT : ds.2.1.length ≤ i) (hQ : ds.2.2.length ≤ i) :
    ∃ st', InvD (stepD ds (opN D[i]) (kF (fA A D[i])) (vF (fA A D[i]))).2 st' ∧
      ((badF (fA A D[i]) (stepD ds (opN D[i]) (kF (fA A D[i])) (vF (fA A D[i]))).1 = false ∧ Go.Mini.Good Try.prog [(0, co A)] (canS (bsJ st (oWit D)) (co A) 6 6) [5, 4, 3, 2, 1] (TK (.osl 0 0 A.length 9) (ovD D 5) x24 (.int .i64 (Int.ofNat 0)) (.bool false) i) (loopAt Try.prog 22 0) .normal (TK (.osl 0 0 A.length 9) (ovD D 5) (.agg (callO (fA A D[i]))) (.int .i64 (Int.ofNat 0)) (.bool false) (i + 1)) (canS (bsJ st' (oWit D)) (co A) 6 6) [5, 4, 3, 2, 1]) ∨
       (badF (fA A D[i]) (stepD ds (opN D[i]) (kF (fA A D[i])) (vF (fA A D[i]))).1 = true ∧ Go.Mini.Good Try.prog [(0, co A)] (canS (bsJ st (oWit D)) (co A) 6 6) [5, 4, 3, 2, 1] (TK (.osl 0 0 A.length 9) (ovD D 5) x24 (.int .i64 (Int.ofNat 0)) (.bool false) i) (loopAt Try.prog 22 0) .ret (TK (.osl 0 0 A.length 9) (ovD D 5) (.agg (callO (fA A D[i]))) (.int .i64 (Int.ofNat D[i])) (.bool false) i) (canS (bsJ st' (oWit D)) (co A) 6 6) [5, 4, 3, 2, 1])) := by
  generalize hd : D[i] = d
  have hdm : d < A.length := hD d (by rw [← hd]; exact List.getElem_mem _)
  have ho := hop d hdm
  obtain ⟨wi, wl⟩ := ovD_idx hi
  rw [hd] at wl
  generalize hf : fA A d = z at ho
  have hz : callO z = [.int .i64 z.1, .int .i64 (Int.ofNat (opN d)), .int .u64 (kF z), .int .u64 (vF z), .int .i64 (ansF z), .int .u64 (gotF z), .int .i64 (fromF z), .int .i64 (atF z), .int .i64 (toF z)] := by
    rw [← ho]
    rfl
  have hx : XO (.agg (callO z)) := .inr ⟨_, rfl⟩
  have hcp : Free (.cells false [.int .i64 z.1, .int .i64 (Int.ofNat (opN d)), .int .u64 (kF z), .int .u64 (vF z), .int .i64 (ansF z), .int .u64 (gotF z), .int .i64 (fromF z), .int .i64 (atF z), .int .i64 (toF z)]) := ⟨rfl, rfl⟩
  obtain ⟨st', r, nn, x1, x2, x3, xA, xB, q1, q4, q5⟩ := doD (cp := .cells false [.int .i64 z.1, .int .i64 (Int.ofNat (opN d)), .int .u64 (kF z), .int .u64 (vF z), .int .i64 (ansF z), .int .u64 (gotF z), .int .i64 (fromF z), .int .i64 (atF z), .int .i64 (toF z)]) (oW := oWit D) (row := co A) (op := opN d) (k := kF z) (v := vF z) (by omega) (by omega) (by omega) inv
  refine ⟨st', q1, ?_⟩
  generalize hrr : stepD ds (opN d) (kF z) (vF z) = rr at q5
  have ll := ovD_ln D (canS (bsJ st (oWit D)) (co A) 6 6)
  have lt := ltq i D.length true (by simpa using hi)
  have hidx : (Qst.idx 51 (.osl 0 0 A.length 9) (.int .i64 (Int.ofNat d)) (.ptr 0 (d * 9))).ok Try.prog := idx51 hdm
  have ld := ld_O hdm (s := canS (bsJ st (oWit D)) (co A) 6 6) (b := 0) (ro := true) rfl
  rw [hf, hz] at ld
  have badE : ∀ b1 b2 b3 b4 : Bool, decide (fromF z > atF z) = b1 → ((toF z != Int.negSucc 0) && decide (atF z > toF z)) = b2 → (Int.ofNat rr.1.1 != ansF z) = b3 → (rr.1.2 != gotF z) = b4 → badF z rr.1 = (b1 || b2 || b3 || b4) := by
    intro b1 b2 b3 b4 h1 h2 h3 h4
    unfold badF
    rw [h1, h2, h3, h4]
  have tidy : ∀ {t2 : AV} {j : Nat} {ts1 : List AV}, seesT (fun b => b) (fun _ => true) (TK (.osl 0 0 A.length 9) (ovD D 5) (.agg [.int .i64 z.1, .int .i64 (Int.ofNat (opN d)), .int .u64 (kF z), .int .u64 (vF z), .int .i64 (ansF z), .int .u64 (gotF z), .int .i64 (fromF z), .int .i64 (atF z), .int .i64 (toF z)]) t2 (.bool false) j) ts1 → seesT (fun b => b) (fun _ => true) (TK (.osl 0 0 A.length 9) (ovD D 5) (.agg (callO z)) t2 (.bool false) j) ts1 := fun h => by rw [hz]; exact h
  cases hb1 : decide (fromF z > atF z) with
  | true =>
    refine .inr ⟨by rw [badE true _ _ _ hb1 rfl rfl rfl]; rfl, canK q1 q4 hcp hx rfl rfl (runX_sound mixed none_sound (u_f1 (.osl 0 0 A.length 9) (ovD D 5) x24 st.mS st.mT st.q _ _ _ D.length i (d * 9) d z.1 (Int.ofNat (opN d)) (kF z) (vF z) (ansF z) (gotF z) (fromF z) (atF z) (toF z) _ _ st.oS st.oT st.oQ (oWit D) x1 x2 x3 xA xB (co A)) ⟨ll, lt, wi, wl _ rfl, hidx, ld, q5, bq hb1, wi, wl _ rfl, trivial⟩) (tidy ?_)⟩
    unfold TK
    repeat (first | exact rfl | refine ⟨_, _, rfl, ?_, ?_⟩ | exact .inr ⟨rfl, rfl⟩ | exact .inl ⟨rfl, rfl⟩ | exact .inl ⟨(ovD_na D 5).1.symm, (ovD_na D 5).2⟩ | exact see_same _)
  | false =>
    cases hb2 : (toF z != Int.negSucc 0) with
    | true =>
      cases hb3 : decide (atF z > toF z) with
      | true =>
        refine .inr ⟨by rw [badE false true _ _ hb1 (by rw [hb2, hb3]; rfl) rfl rfl]; rfl, canK q1 q4 hcp hx rfl rfl (runX_sound mixed none_sound (u_f2 (.osl 0 0 A.length 9) (ovD D 5) x24 st.mS st.mT st.q _ _ _ D.length i (d * 9) d z.1 (Int.ofNat (opN d)) (kF z) (vF z) (ansF z) (gotF z) (fromF z) (atF z) (toF z) _ _ st.oS st.oT st.oQ (oWit D) x1 x2 x3 xA xB (co A)) ⟨ll, lt, wi, wl _ rfl, hidx, ld, q5, bq hb1, bq hb2, bq hb3, wi, wl _ rfl, trivial⟩) (tidy ?_)⟩
        unfold TK
        repeat (first | exact rfl | refine ⟨_, _, rfl, ?_, ?_⟩ | exact .inr ⟨rfl, rfl⟩ | exact .inl ⟨rfl, rfl⟩ | exact .inl ⟨(ovD_na D 5).1.symm, (ovD_na D 5).2⟩ | exact see_same _)
      | false =>
        cases hb4 : (Int.ofNat rr.1.1 != ansF z) with
        | true =>
          refine .inr ⟨by rw [badE false false true _ hb1 (by rw [hb2, hb3]; rfl) hb4 rfl]; rfl, canK q1 q4 hcp hx rfl rfl (runX_sound mixed none_sound (u_fa1 (.osl 0 0 A.length 9) (ovD D 5) x24 st.mS st.mT st.q _ _ _ D.length i (d * 9) d z.1 (Int.ofNat (opN d)) (kF z) (vF z) (ansF z) (gotF z) (fromF z) (atF z) (toF z) _ _ st.oS st.oT st.oQ (oWit D) x1 x2 x3 xA xB (co A)) ⟨ll, lt, wi, wl _ rfl, hidx, ld, q5, bq hb1, bq hb2, bq hb3, bq hb4, wi, wl _ rfl, trivial⟩) (tidy ?_)⟩
          unfold TK
          repeat (first | exact rfl | refine ⟨_, _, rfl, ?_, ?_⟩ | exact .inr ⟨rfl, rfl⟩ | exact .inl ⟨rfl, rfl⟩ | exact .inl ⟨(ovD_na D 5).1.symm, (ovD_na D 5).2⟩ | exact see_same _)
        | false =>
          cases hb5 : (rr.1.2 != gotF z) with
          | true =>
            refine .inr ⟨by rw [badE false false false true hb1 (by rw [hb2, hb3]; rfl) hb4 hb5]; rfl, canK q1 q4 hcp hx rfl rfl (runX_sound mixed none_sound (u_fg1 (.osl 0 0 A.length 9) (ovD D 5) x24 st.mS st.mT st.q _ _ _ D.length i (d * 9) d z.1 (Int.ofNat (opN d)) (kF z) (vF z) (ansF z) (gotF z) (fromF z) (atF z) (toF z) _ _ st.oS st.oT st.oQ (oWit D) x1 x2 x3 xA xB (co A)) ⟨ll, lt, wi, wl _ rfl, hidx, ld, q5, bq hb1, bq hb2, bq hb3, bq hb4, bq hb5, wi, wl _ rfl, trivial⟩) (tidy ?_)⟩
            unfold TK
            repeat (first | exact rfl | refine ⟨_, _, rfl, ?_, ?_⟩ | exact .inr ⟨rfl, rfl⟩ | exact .inl ⟨rfl, rfl⟩ | exact .inl ⟨(ovD_na D 5).1.symm, (ovD_na D 5).2⟩ | exact see_same _)
          | false =>
            refine .inl ⟨by rw [badE false false false false hb1 (by rw [hb2, hb3]; rfl) hb4 hb5]; rfl, canK q1 q4 hcp hx rfl rfl (runX_sound mixed none_sound (u_ok1 (.osl 0 0 A.length 9) (ovD D 5) x24 st.mS st.mT st.q _ _ _ D.length i (d * 9) d z.1 (Int.ofNat (opN d)) (kF z) (vF z) (ansF z) (gotF z) (fromF z) (atF z) (toF z) _ _ st.oS st.oT st.oQ (oWit D) x1 x2 x3 xA xB (co A)) ⟨ll, lt, wi, wl _ rfl, hidx, ld, q5, bq hb1, bq hb2, bq hb3, bq hb4, bq hb5, wq _ rfl (by omega), trivial⟩) (tidy ?_)⟩
            unfold TK
            repeat (first | exact rfl | refine ⟨_, _, rfl, ?_, ?_⟩ | exact .inr ⟨rfl, rfl⟩ | exact .inl ⟨rfl, rfl⟩ | exact .inl ⟨(ovD_na D 5).1.symm, (ovD_na D 5).2⟩ | exact see_same _)
    | false =>
      cases hb4 : (Int.ofNat rr.1.1 != ansF z) with
      | true =>
        refine .inr ⟨by rw [badE false false true _ hb1 (by rw [hb2]; rfl) hb4 rfl]; rfl, canK q1 q4 hcp hx rfl rfl (runX_sound mixed none_sound (u_fa0 (.osl 0 0 A.length 9) (ovD D 5) x24 st.mS st.mT st.q _ _ _ D.length i (d * 9) d z.1 (Int.ofNat (opN d)) (kF z) (vF z) (ansF z) (gotF z) (fromF z) (atF z) (toF z) _ _ st.oS st.oT st.oQ (oWit D) x1 x2 x3 xA xB (co A)) ⟨ll, lt, wi, wl _ rfl, hidx, ld, q5, bq hb1, bq hb2, bq hb4, wi, wl _ rfl, trivial⟩) (tidy ?_)⟩
        unfold TK
        repeat (first | exact rfl | refine ⟨_, _, rfl, ?_, ?_⟩ | exact .inr ⟨rfl, rfl⟩ | exact .inl ⟨rfl, rfl⟩ | exact .inl ⟨(ovD_na D 5).1.symm, (ovD_na D 5).2⟩ | exact see_same _)
      | false =>
        cases hb5 : (rr.1.2 != gotF z) with
        | true =>
          refine .inr ⟨by rw [badE false false false true hb1 (by rw [hb2]; rfl) hb4 hb5]; rfl, canK q1 q4 hcp hx rfl rfl (runX_sound mixed none_sound (u_fg0 (.osl 0 0 A.length 9) (ovD D 5) x24 st.mS st.mT st.q _ _ _ D.length i (d * 9) d z.1 (Int.ofNat (opN d)) (kF z) (vF z) (ansF z) (gotF z) (fromF z) (atF z) (toF z) _ _ st.oS st.oT st.oQ (oWit D) x1 x2 x3 xA xB (co A)) ⟨ll, lt, wi, wl _ rfl, hidx, ld, q5, bq hb1, bq hb2, bq hb4, bq hb5, wi, wl _ rfl, trivial⟩) (tidy ?_)⟩
          unfold TK
          repeat (first | exact rfl | refine ⟨_, _, rfl, ?_, ?_⟩ | exact .inr ⟨rfl, rfl⟩ | exact .inl ⟨rfl, rfl⟩ | exact .inl ⟨(ovD_na D 5).1.symm, (ovD_na D 5).2⟩ | exact see_same _)
        | false =>
          refine .inl ⟨by rw [badE false false false false hb1 (by rw [hb2]; rfl) hb4 hb5]; rfl, canK q1 q4 hcp hx rfl rfl (runX_sound mixed none_sound (u_ok0 (.osl 0 0 A.length 9) (ovD D 5) x24 st.mS st.mT st.q _ _ _ D.length i (d * 9) d z.1 (Int.ofNat (opN d)) (kF z) (vF z) (ansF z) (gotF z) (fromF z) (atF z) (toF z) _ _ st.oS st.oT st.oQ (oWit D) x1 x2 x3 xA xB (co A)) ⟨ll, lt, wi, wl _ rfl, hidx, ld, q5, bq hb1, bq hb2, bq hb4, bq hb5, wq _ rfl (by omega), trivial⟩) (tidy ?_)⟩
          unfold TK
          repeat (first | exact rfl | refine ⟨_, _, rfl, ?_, ?_⟩ | exact .inr ⟨rfl, rfl⟩ | exact .inl ⟨rfl, rfl⟩ | exact .inl ⟨(ovD_na D 5).1.symm, (ovD_na D 5).2⟩ | exact see_same _)
end
end Go.Proofs.Ythooafgfpnedhaa.specsJudge
