/- What made makes; the canonical states of its loop. Conditions: those that each theorem names, and no others. -/
import Derived.Test.YthooafgfpnedhaaWitn23
namespace Go.Proofs.Ythooafgfpnedhaa.specsWitness
open Go Go.Mini
/-! ### made -/
abbrev Do3 : Type := Int × Int × Int
def doC (z : Do3) : List AV := [.int .u8 z.1, .int .u64 z.2.1, .int .u64 z.2.2]
/-- Rows of ops in block 0. -/
structure RwD (lA : AV) (n : Nat) (row : List AV) (f : Nat → Do3) : Prop where
  len : ∀ s, lenA Try.prog s 47 lA = some (.int .i64 (Int.ofNat n))
  at_ : ∀ i, i < n → ∃ a, (Qst.idx 47 lA (.int .i64 (Int.ofNat i)) (.ptr 0 a)).ok Try.prog ∧ ∀ s : AS, s.get 0 = some (.cells true row) → (Qst.ld 5 s (.ptr 0 (a + 0)) (.int .u8 (f i).1)).ok Try.prog ∧ (Qst.ld 22 s (.ptr 0 (a + 1)) (.int .u64 (f i).2.1)).ok Try.prog ∧ (Qst.ld 22 s (.ptr 0 (a + 2)) (.int .u64 (f i).2.2)).ok Try.prog
  small : n ≤ 60
  op : ∀ i, i < n → 0 ≤ (f i).1
  nm : namess (fun _ => false) row = true
  kind : lA = .nilSlice ∨ ∃ c, lA = .slice 0 0 n c
/-- Times in block 9. -/
structure RwT (tA : AV) (nt : Nat) (trow : List AV) (τ : Nat → Nat) : Prop where
  len : ∀ s, lenA Try.prog s 65 tA = some (.int .i64 (Int.ofNat nt))
  at_ : ∀ i, i < nt → ∃ b, (Qst.idx 65 tA (.int .i64 (Int.ofNat i)) (.ptr 9 b)).ok Try.prog ∧ ∀ s : AS, s.get 9 = some (.cells true trow) → (Qst.ld 5 s (.ptr 9 b) (.int .u8 (Int.ofNat (τ i)))).ok Try.prog
  else_ : ∀ i, nt ≤ i → τ i = 3
  byte : ∀ i, τ i ≤ 255
  nm : namess (fun _ => false) trow = true
  kind : tA = .nilSlice ∨ ∃ c, tA = .slice 9 0 nt c
theorem RwD.na {lA : AV} {n : Nat} {row : List AV} {f : Nat → Do3} (W : RwD lA n row f) : junkOf lA = uu ∧ junkable lA = true := by
  rcases W.kind with rfl | ⟨c, rfl⟩ <;> exact ⟨rfl, rfl⟩
theorem RwD.xr {lA : AV} {n : Nat} {row : List AV} {f : Nat → Do3} (W : RwD lA n row f) (π : Nat → Nat) (h : π 0 = 0) : lA.ren π = lA := by
  rcases W.kind with rfl | ⟨c, rfl⟩ <;> simp [AV.ren, h]
theorem RwD.xn {lA : AV} {n : Nat} {row : List AV} {f : Nat → Do3} (W : RwD lA n row f) {m : Nat} (h : 0 < m) : lA.names (fun b => Nat.blt b m) = true := by
  rcases W.kind with rfl | ⟨c, rfl⟩
  · rfl
  · simpa [AV.names] using h
theorem RwT.na {tA : AV} {nt : Nat} {trow : List AV} {τ : Nat → Nat} (W : RwT tA nt trow τ) : junkOf tA = uu ∧ junkable tA = true := by
  rcases W.kind with rfl | ⟨c, rfl⟩ <;> exact ⟨rfl, rfl⟩
theorem RwT.xr {tA : AV} {nt : Nat} {trow : List AV} {τ : Nat → Nat} (W : RwT tA nt trow τ) (π : Nat → Nat) (h : π 9 = 9) : tA.ren π = tA := by
  rcases W.kind with rfl | ⟨c, rfl⟩ <;> simp [AV.ren, h]
theorem RwT.xn {tA : AV} {nt : Nat} {trow : List AV} {τ : Nat → Nat} (W : RwT tA nt trow τ) {m : Nat} (h : 9 < m) : tA.names (fun b => Nat.blt b m) = true := by
  rcases W.kind with rfl | ⟨c, rfl⟩
  · rfl
  · simpa [AV.names] using h
/-! what it makes -/
def opM (f : Nat → Do3) (i : Nat) : Nat := ((f i).1 % 8).toNat
def stM (τ : Nat → Nat) : Nat → Nat
  | 0 => 10
  | i + 1 => stM τ i + 1 + τ i % 3
def psM (f : Nat → Do3) : Nat → PS
  | 0 => ([], [], [])
  | i + 1 => (stepP (psM f i) (opM f i) (f i).2.1 (f i).2.2).2
def ansM (f : Nat → Do3) (i : Nat) : Nat × Int := (stepP (psM f i) (opM f i) (f i).2.1 (f i).2.2).1
def toM (τ : Nat → Nat) (i : Nat) : Int := if τ i = 255 then Int.negSucc 0 else Int.ofNat (stM τ (i + 1) + τ i / 27 % 9)
def callM (f : Nat → Do3) (τ : Nat → Nat) (i : Nat) : Call9 := (Int.ofNat (i % 16), Int.ofNat (opM f i), (f i).2.1, (f i).2.2, Int.ofNat (ansM f i).1, (ansM f i).2, Int.ofNat (stM τ (i + 1) - τ i / 3 % 9), Int.ofNat (stM τ (i + 1)), toM τ i)
def LF (f : Nat → Do3) (τ : Nat → Nat) (i : Nat) : List Call9 := (List.range i).map (callM f τ)
theorem LF_succ (f : Nat → Do3) (τ : Nat → Nat) (i : Nat) : LF f τ (i + 1) = LF f τ i ++ [callM f τ i] := by simp [LF, List.range_succ]
theorem LF_len (f : Nat → Do3) (τ : Nat → Nat) (i : Nat) : (LF f τ i).length = i := by simp [LF]
theorem opM_lt (f : Nat → Do3) (i : Nat) : opM f i < 8 := by
  unfold opM
  omega
theorem opM_q {f : Nat → Do3} {i : Nat} (h : 0 ≤ (f i).1) : (Qst.val (some (AV.int .u8 ((f i).1.tmod (Int.ofNat 8)))) (AV.int .u8 (Int.ofNat (opM f i)))).ok Try.prog := by
  simp only [Qst.ok]
  rw [show (Int.ofNat 8) = (8 : Int) from rfl, Int.tmod_eq_emod_of_nonneg h]
  unfold opM
  have : Int.ofNat (((f i).1 % 8).toNat) = (f i).1 % 8 := by
    show (((f i).1 % 8).toNat : Int) = _
    omega
  rw [this]
theorem stM_ge (τ : Nat → Nat) : ∀ i, 10 + i ≤ stM τ i
  | 0 => Nat.le_refl _
  | i + 1 => by
    have := stM_ge τ i
    show 10 + (i + 1) ≤ stM τ i + 1 + τ i % 3
    omega
theorem stM_le (τ : Nat → Nat) : ∀ i, stM τ i ≤ 10 + 3 * i
  | 0 => Nat.le_refl _
  | i + 1 => by
    have := stM_le τ i
    show stM τ i + 1 + τ i % 3 ≤ _
    omega
theorem stM_lt (τ : Nat → Nat) {i : Nat} : ∀ {j : Nat}, i < j → stM τ i < stM τ j
  | 0, h => by omega
  | j + 1, h => by
    have e : stM τ (j + 1) = stM τ j + 1 + τ j % 3 := rfl
    by_cases hj : i = j
    · subst hj
      omega
    · have := stM_lt τ (i := i) (j := j) (by omega)
      omega
theorem eachX_mono {f g : Nat → AObj → Prop} (h : ∀ b o, f b o → g b o) : ∀ {bs : List (Nat × AObj)}, eachX f bs → eachX g bs
  | [], _ => trivial
  | _ :: _, h' => ⟨h _ _ h'.1, eachX_mono h h'.2⟩
/-! the blocks -/
def bsM (st : S3) (oC oO : AObj) : List (Nat × AObj) := [(6, oO), (5, oC), (4, .cells false [st.mS, st.mT, st.q]), (3, st.oQ), (2, st.oT), (1, st.oS)]
def CMd (st : S3) (oC oO : AObj) (row trow : List AV) : AS := canF (bsM st oC oO) [(9, trow), (0, row)] 8 10
def MC (i : Nat) (L : List Call9) (cv : AV) (oC : AObj) : Prop := (i = 0 ∧ cv = .nilSlice ∧ Free oC) ∨ (0 < i ∧ cv = .osl 5 0 i 9 ∧ oC = .cells false (rowsOf callC L) ∧ L.length = i)
def MR (i : Nat) (L : List Nat) (ov : AV) (oO : AObj) : Prop := (i = 0 ∧ ov = .nilSlice ∧ Free oO) ∨ (0 < i ∧ ov = .osl 6 0 i 1 ∧ oO = .cells false (nc L) ∧ L.length = i)
theorem names_calls (p : Nat → Bool) (L : List Call9) : namess p (rowsOf callC L) = true := names_rows (fun _ => rfl) L
theorem freeCalls (L : List Call9) : Free (.cells false (rowsOf callC L)) := ⟨rfl, names_calls _ L⟩
theorem MC.fr {i : Nat} {L : List Call9} {cv : AV} {oC : AObj} (h : MC i L cv oC) : Free oC := by
  rcases h with ⟨_, _, h⟩ | ⟨_, _, rfl, _⟩
  · exact h
  · exact freeCalls L
theorem MR.fr {i : Nat} {L : List Nat} {cv : AV} {oC : AObj} (h : MR i L cv oC) : Free oC := by
  rcases h with ⟨_, _, h⟩ | ⟨_, _, rfl, _⟩
  · exact h
  · exact freeRow L
theorem MC.nm {i : Nat} {L : List Call9} {cv : AV} {oC : AObj} (h : MC i L cv oC) : cv.names (fun b => Nat.blt b 10) = true := by
  rcases h with ⟨_, rfl, _⟩ | ⟨_, rfl, _⟩ <;> rfl
theorem MR.nm {i : Nat} {L : List Nat} {cv : AV} {oC : AObj} (h : MR i L cv oC) : cv.names (fun b => Nat.blt b 10) = true := by
  rcases h with ⟨_, rfl, _⟩ | ⟨_, rfl, _⟩ <;> rfl
theorem MC.na {i : Nat} {L : List Call9} {cv : AV} {oC : AObj} (h : MC i L cv oC) : junkOf cv = uu ∧ junkable cv = true := by
  rcases h with ⟨_, rfl, _⟩ | ⟨_, rfl, _⟩ <;> exact ⟨rfl, rfl⟩
theorem MR.na {i : Nat} {L : List Nat} {cv : AV} {oC : AObj} (h : MR i L cv oC) : junkOf cv = uu ∧ junkable cv = true := by
  rcases h with ⟨_, rfl, _⟩ | ⟨_, rfl, _⟩ <;> exact ⟨rfl, rfl⟩
def mvM (r b : Nat) : Nat := if b = 5 then 13 else if b = 6 then 15 else if b = 7 ∨ b = 8 then 0 else moved r 10 b
theorem rens_TM {lA tA x90 x95 : AV} (h90 : X12 x90) (h95 : X12 x95) {π : Nat → Nat} (hl : lA.ren π = lA) (ht : tA.ren π = tA) (cv ov : AV) (st i : Nat) :
    rens π (TM lA tA cv ov x90 x95 st i) = [lA, tA, uu, uu, .nilSlice, .nilSlice, .ptr (π 4) 0, cv.ren π, ov.ren π, .int .i64 (Int.ofNat st), .int .i64 (Int.ofNat i)] ++ List.replicate 79 uu ++ [x90] ++ List.replicate 4 uu ++ [x95] ++ List.replicate 8 uu := by
  show [lA.ren π, tA.ren π, uu, uu, .nilSlice, .nilSlice, .ptr (π 4) 0, cv.ren π, ov.ren π, .int .i64 (Int.ofNat st), .int .i64 (Int.ofNat i)] ++ List.replicate 79 uu ++ [x90.ren π] ++ List.replicate 4 uu ++ [x95.ren π] ++ rens π (List.replicate 8 uu) = _
  rw [hl, ht, h90.ren, h95.ren, rensW]
section
variable {lA tA : AV} {n nt : Nat} {row trow : List AV} {f : Nat → Do3} {τ : Nat → Nat} (W : RwD lA n row f) (W2 : RwT tA nt trow τ)
include W W2
theorem names_TM {cv ov x90 x95 : AV} (h90 : X12 x90) (h95 : X12 x95) (hc : cv.names (fun b => Nat.blt b 10) = true) (ho : ov.names (fun b => Nat.blt b 10) = true) (st i : Nat) : namess (fun b => Nat.blt b 10) (TM lA tA cv ov x90 x95 st i) = true := by
  unfold TM
  simp only [namess, List.replicate, W.xn (show 0 < 10 by decide), W2.xn (show 9 < 10 by decide), hc, ho, h90.nm, h95.nm, AV.names, namess, Bool.and_true, Bool.and_self]
  rfl
/-- A canonical state of made's loop. -/
theorem canM {C0 : AS} {foot0 : List Nat} {T ts1 : List AV} {c : Code} {e : AExit} {bs1 : List (Nat × AObj)} {len1 nx1 : Nat} {esc1 : Option Nat} {wr1 : List Nat}
    (hs : Sound Try.prog (.code c T C0) ⟨e, ts1, ⟨⟨bs1, len1, esc1, wr1⟩, nx1⟩⟩) {S' T' : Option (List (Int × Int))} {Q' : Option (List Int × Nat)} {st' : S3} (inv : Inv3 S' T' Q' st') {i j st : Nat} {L : List Call9} {R : List Nat} {cv ov oC oO x90 x95} (hc : MC i L cv oC) (ho : MR j R ov oO) (h90 : X12 x90) (h95 : X12 x95)
    (π : Nat → Nat) (h0 : π 0 = 0) (h9 : π 9 = 9) (h7 : π 7 = 0) (h8 : π 8 = 0) (hne : ∀ b ∈ [6, 5, 4, 3, 2, 1], π b ≠ 0 ∧ π b ≠ 9) (hinj : ∀ b ∈ [6, 5, 4, 3, 2, 1], ∀ c ∈ [6, 5, 4, 3, 2, 1], π b = π c → b = c)
    (g0 : getB bs1 0 = some (.cells true row)) (g9 : getB bs1 9 = some (.cells true trow)) (g1 : getB bs1 (π 1) = some st'.oS) (g2 : getB bs1 (π 2) = some st'.oT) (g3 : getB bs1 (π 3) = some st'.oQ) (g4 : getB bs1 (π 4) = some (.cells false [st'.mS.ren π, st'.mT.ren π, st'.q.ren π])) (g5 : getB bs1 (π 5) = some oC) (g6 : getB bs1 (π 6) = some oO)
    (hcov : eachX (fun b o => o = .dead ∨ Free o ∨ ∃ c ∈ [9, 0, 6, 5, 4, 3, 2, 1], π c = b) bs1) (hkeys : (bs1.all fun y => Nat.blt y.1 nx1) = true) (hnx : C0.nx ≤ nx1) (hst : ∀ b, b < C0.nx → b ∉ foot0 → getB bs1 b = C0.get b)
    (hts : seesT (fun b => b) (fun _ => true) ([lA, tA, uu, uu, .nilSlice, .nilSlice, .ptr (π 4) 0, cv.ren π, ov.ren π, .int .i64 (Int.ofNat st), .int .i64 (Int.ofNat i)] ++ List.replicate 79 uu ++ [x90] ++ List.replicate 4 uu ++ [x95] ++ List.replicate 8 uu) ts1) :
    Go.Mini.Good Try.prog [(9, trow), (0, row)] C0 foot0 T c e (TM lA tA cv ov x90 x95 st i) (CMd st' oC oO row trow) [6, 5, 4, 3, 2, 1] := by
  refine Good.canF (bsC := bsM st' oC oO) (Fz := [(9, trow), (0, row)]) (nxC := 10) hs noG π h0 (fun x hx => ?_) ⟨⟨show 6 < 10 by decide, rfl, ho.fr.1, ho.fr.nm _, by rw [ho.fr.ren]; exact g6⟩, ⟨show 5 < 10 by decide, rfl, hc.fr.1, hc.fr.nm _, by rw [hc.fr.ren]; exact g5⟩, ⟨show 4 < 10 by decide, rfl, rfl, and2 (inv.s.nm (show 1 < 10 by decide)) (and2 (inv.t.nm (show 2 < 10 by decide)) (and2 (inv.q.nm (show 3 < 10 by decide)) rfl)), g4⟩, ⟨show 3 < 10 by decide, rfl, inv.q.fr.1, inv.q.fr.nm _, by rw [inv.q.fr.ren]; exact g3⟩, ⟨show 2 < 10 by decide, rfl, inv.t.fr.1, inv.t.fr.nm _, by rw [inv.t.fr.ren]; exact g2⟩, ⟨show 1 < 10 by decide, rfl, inv.s.fr.1, inv.s.fr.nm _, by rw [inv.s.fr.ren]; exact g1⟩, trivial⟩
    (show [6, 5, 4, 3, 2, 1].Nodup by decide) hinj ?_ hkeys hnx (fun c hc h => ?_) hst ?_ (names_TM W W2 h90 h95 hc.nm ho.nm _ _)
  · rcases List.mem_cons.1 hx with rfl | hx
    · exact ⟨h9, show 9 < 10 by decide, show 9 ∉ [6, 5, 4, 3, 2, 1] by decide, W2.nm, rfl, g9, fun c hc => (hne c hc).2⟩
    · have hx : x = (0, row) := by simpa using hx
      subst hx
      exact ⟨h0, show 0 < 10 by decide, show 0 ∉ [6, 5, 4, 3, 2, 1] by decide, W.nm, rfl, g0, fun c hc => (hne c hc).1⟩
  · refine eachX_mono (fun b o h => ?_) hcov
    rcases h with h | h | ⟨c, h1, h2⟩
    · exact .inl h
    · exact .inr (.inl h)
    · refine .inr (.inr ⟨c, ?_, h2⟩)
      rcases List.mem_cons.1 h1 with rfl | h1
      · exact .inl ⟨(9, trow), by simp, rfl⟩
      · rcases List.mem_cons.1 h1 with rfl | h1
        · exact .inl ⟨(0, row), by simp, rfl⟩
        · exact .inr h1
  · have c0 : c ≠ 0 := fun e => h ⟨(0, row), by simp, e.symm⟩
    have c9 : c ≠ 9 := fun e => h ⟨(9, trow), by simp, e.symm⟩
    by_cases e7 : c = 7
    · exact .inr (by rw [e7, h7])
    by_cases e8 : c = 8
    · exact .inr (by rw [e8, h8])
    refine .inl ?_
    show c ∈ [6, 5, 4, 3, 2, 1]
    simp
    omega
  · rw [rens_TM h90 h95 (W.xr π h0) (W2.xr π h9)]
    exact hts
end
end Go.Proofs.Ythooafgfpnedhaa.specsWitness
