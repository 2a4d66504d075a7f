/- What specs.Judge looks for; its canonical states. Conditions: those that each theorem names, and no others. -/
import Derived.Test.YthooafgfpnedhaaJud19
namespace Go.Proofs.Ythooafgfpnedhaa.specsJudge
open Go Go.Mini
/-! ### specs.Judge -/
def kF (z : Call9) : Int := z.2.2.1
def vF (z : Call9) : Int := z.2.2.2.1
def ansF (z : Call9) : Int := z.2.2.2.2.1
def gotF (z : Call9) : Int := z.2.2.2.2.2.1
def fromF (z : Call9) : Int := z.2.2.2.2.2.2.1
def toF (z : Call9) : Int := z.2.2.2.2.2.2.2.2
def badF (z : Call9) (r : Nat × Int) : Bool := decide (fromF z > atF z) || ((toF z != Int.negSucc 0) && decide (atF z > toF z)) || (Int.ofNat r.1 != ansF z) || (r.2 != gotF z)
/-- The first call that does not fit. -/
def judgeL (f : Nat → Call9) (opN : Nat → Nat) : List Nat → PS → Option Nat
  | [], _ => none
  | d :: D, ps => if badF (f d) (stepP ps (opN d) (kF (f d)) (vF (f d))).1 then some d else judgeL f opN D (stepP ps (opN d) (kF (f d)) (vF (f d))).2
def bsJ (st : S3) (oW : AObj) : List (Nat × AObj) := [(5, oW), (4, .cells false [st.mS, st.mT, st.q]), (3, st.oQ), (2, st.oT), (1, st.oS)]
def WA (D : List Nat) (wA : AV) (oW : AObj) : Prop := (D = [] ∧ wA = .nilSlice ∧ Free oW) ∨ (wA = .slice 5 0 D.length D.length ∧ oW = .cells false (nc D))
section
variable {D : List Nat} {wA : AV} {oW : AObj} (h : WA D wA oW)
include h
theorem WA.fr : Free oW := by
  rcases h with ⟨_, _, h⟩ | ⟨_, rfl⟩
  · exact h
  · exact freeRow D
theorem WA.ren (π : Nat → Nat) (hp : π 5 = 5) : wA.ren π = wA := by
  rcases h with ⟨_, rfl, _⟩ | ⟨rfl, _⟩ <;> simp [AV.ren, hp]
theorem WA.nm {n : Nat} (hn : 5 < n) : wA.names (fun b => Nat.blt b n) = true := by
  rcases h with ⟨_, rfl, _⟩ | ⟨rfl, _⟩
  · rfl
  · simpa [AV.names] using hn
theorem WA.na : junkOf wA = uu ∧ junkable wA = true := by
  rcases h with ⟨_, rfl, _⟩ | ⟨rfl, _⟩ <;> exact ⟨rfl, rfl⟩
theorem WA.idx {i : Nat} (hi : i < D.length) : (Qst.idx 57 wA (.int .i64 (Int.ofNat i)) (.ptr 5 i)).ok Try.prog ∧ ∀ s : AS, s.get 5 = some oW → (Qst.ld 3 s (.ptr 5 i) (.int .i64 (Int.ofNat D[i]))).ok Try.prog := by
  rcases h with ⟨rfl, _, _⟩ | ⟨rfl, rfl⟩
  · simp at hi
  · refine ⟨?_, fun s hs => ld_cell a3 hs (by simp [nc, hi])⟩
    have := idx_slice (P := Try.prog) (b := 5) (o := 0) (cap := D.length) (kk := .i64) t57 z3 hi
    rw [Nat.zero_add, Nat.mul_one] at this
    exact this
end
theorem bq {b r : Bool} (h : b = r) : (Qst.val (some (AV.bool b)) (AV.bool r)).ok Try.prog := congrArg (fun z => some (AV.bool z)) h
section
variable {lA : AV} {n : Nat} {row : List AV} {f : Nat → Call9} (W : RwC lA n row f)
include W
theorem rensTJ {D : List Nat} {wA : AV} {oW : AObj} (hw : WA D wA oW) {x21 t2 t3 : AV} (h21 : X12 x21) (h2 : t2.names (fun _ => false) = true) (h3 : t3.names (fun _ => false) = true) (π : Nat → Nat) (h0 : π 0 = 0) (h4 : π 4 = 4) (h5 : π 5 = 5) (m i : Nat) : rens π (TJ lA wA x21 t2 t3 m i) = TJ lA wA x21 t2 t3 m i := by
  have no : ∀ {t : AV}, t.names (fun _ => false) = true → t.ren π = t := fun h => by rw [ren_congr (p := fun _ => false) (π' := fun b => b) (fun _ h => by cases h) h, ren_id]
  show [lA.ren π, uu, t2.ren π, t3.ren π, .ptr (π 4) 0, uu, uu, uu, uu, uu, uu, uu, wA.ren π, .int .i64 (Int.ofNat m), .int .i64 (Int.ofNat i), uu, uu, uu, uu, uu, uu, x21.ren π] ++ rens π (List.replicate 42 uu) = _
  rw [W.xr π h0, no h2, no h3, h4, hw.ren π h5, h21.ren, rensW]
  rfl
theorem namesTJ {D : List Nat} {wA : AV} {oW : AObj} (hw : WA D wA oW) {x21 t2 t3 : AV} (h21 : X12 x21) (h2 : t2.names (fun _ => false) = true) (h3 : t3.names (fun _ => false) = true) (m i : Nat) : namess (fun b => Nat.blt b 6) (TJ lA wA x21 t2 t3 m i) = true := by
  have no : ∀ {t : AV}, t.names (fun _ => false) = true → t.names (fun b => Nat.blt b 6) = true := fun h => names_sub (fun _ h => by cases h) h
  show (lA.names _ && (true && (t2.names _ && (t3.names _ && (true && (true && (true && (true && (true && (true && (true && (true && (wA.names _ && (true && (true && (true && (true && (true && (true && (true && (true && (x21.names _ && namess _ (List.replicate 42 uu))))))))))))))))))))))) = true
  rw [W.xn (by decide), no h2, no h3, hw.nm (by decide), h21.nm]
  rfl
theorem canJ {D : List Nat} {wA : AV} {oW : AObj} (hw : WA D wA oW) {S' T' : Option (List (Int × Int))} {Q' : Option (List Int × Nat)} {st' : S3} (inv : Inv3 S' T' Q' st') {s : AS} {r : Nat} {x1 x2 x3 xN cp : AObj} (af : After s st' r x1 x2 x3 xN) (hcp : Free cp) {x21 t2 t3 : AV} (h21 : X12 x21) (h2 : t2.names (fun _ => false) = true) (h3 : t3.names (fun _ => false) = true)
    {st : S3} {T ts1 : List AV} {c : Code} {e : AExit} {m i len1 : Nat} {esc1 : Option Nat} {wr1 : List Nat}
    (hs : Sound Try.prog (.code c T (canS (bsJ st oW) row 6 6)) ⟨e, ts1, ⟨⟨[(7, xN), (6, cp), (5, oW), (4, .cells false [st'.mS.ren (moved r 7), st'.mT.ren (moved r 7), st'.q.ren (moved r 7)]), (3, x3), (2, x2), (1, x1), (0, .cells true row)], len1, esc1, wr1⟩, 8⟩⟩)
    (hts : seesT (fun b => b) (fun _ => true) (TJ lA wA x21 t2 t3 m i) ts1) :
    Go.Mini.Good Try.prog [(0, row)] (canS (bsJ st oW) row 6 6) [5, 4, 3, 2, 1] T c e (TJ lA wA x21 t2 t3 m i) (canS (bsJ st' oW) row 6 6) [5, 4, 3, 2, 1] := by
  have only : ∀ b, b < 6 → b ∉ [5, 4, 3, 2, 1] → b = 0 := fun b h1 h2 => by simp at h2; omega
  have hr := af.le
  have case0 : r = 0 ∨ r = 1 ∨ r = 2 ∨ r = 3 := by omega
  have m0 : moved r 7 0 = 0 := by rcases case0 with rfl | rfl | rfl | rfl <;> rfl
  have m4 : moved r 7 4 = 4 := by rcases case0 with rfl | rfl | rfl | rfl <;> rfl
  have m5 : moved r 7 5 = 5 := by rcases case0 with rfl | rfl | rfl | rfl <;> rfl
  refine Good.can (bsC := bsJ st' oW) (nxC := 6) hs noG (moved r 7) m0 W.nm ⟨⟨show 0 < 5 by decide, show 5 < 6 by decide, rfl, hw.fr.1, hw.fr.nm _, ?_⟩, ⟨show 0 < 4 by decide, show 4 < 6 by decide, rfl, rfl, ?_, ?_⟩, ⟨show 0 < 3 by decide, show 3 < 6 by decide, rfl, inv.q.fr.1, inv.q.fr.nm _, ?_⟩, ⟨show 0 < 2 by decide, show 2 < 6 by decide, rfl, inv.t.fr.1, inv.t.fr.nm _, ?_⟩, ⟨show 0 < 1 by decide, show 1 < 6 by decide, rfl, inv.s.fr.1, inv.s.fr.nm _, ?_⟩, trivial⟩
    (show [5, 4, 3, 2, 1].Nodup by decide) ?_ ?_ rfl ⟨.inr (.inl af.fN), .inr (.inl hcp), .inr (.inl hw.fr), .inr (.inr ⟨4, .inr (by simp [bsJ]), m4⟩), ?_, ?_, ?_, .inr (.inr ⟨0, .inl rfl, m0⟩), trivial⟩ rfl (show 6 ≤ 8 by decide) (by decide) (fun c hc h => .inl ?_) (fun b h1 h2 => by rw [only b h1 h2]; rfl) ?_ (namesTJ W hw h21 h2 h3 m i)
  · rw [m5, hw.fr.ren]
    rfl
  · exact and2 (inv.s.nm (show 1 < 6 by decide)) (and2 (inv.t.nm (show 2 < 6 by decide)) (and2 (inv.q.nm (show 3 < 6 by decide)) rfl))
  · rw [m4]
    rfl
  · rw [inv.q.fr.ren]
    rcases case0 with rfl | rfl | rfl | rfl
    · rw [← af.e3 (by decide)]; rfl
    · rw [← af.e3 (by decide)]; rfl
    · rw [← af.e3 (by decide)]; rfl
    · rw [← af.n3 rfl]; rfl
  · rw [inv.t.fr.ren]
    rcases case0 with rfl | rfl | rfl | rfl
    · rw [← af.e2 (by decide)]; rfl
    · rw [← af.e2 (by decide)]; rfl
    · rw [← af.n2 rfl]; rfl
    · rw [← af.e2 (by decide)]; rfl
  · rw [inv.s.fr.ren]
    rcases case0 with rfl | rfl | rfl | rfl
    · rw [← af.e1 (by decide)]; rfl
    · rw [← af.n1 rfl]; rfl
    · rw [← af.e1 (by decide)]; rfl
    · rw [← af.e1 (by decide)]; rfl
  · show ∀ b ∈ [5, 4, 3, 2, 1], ∀ c ∈ [5, 4, 3, 2, 1], moved r 7 b = moved r 7 c → b = c
    rcases case0 with rfl | rfl | rfl | rfl <;> decide
  · show ∀ c ∈ [5, 4, 3, 2, 1], moved r 7 c ≠ 0
    rcases case0 with rfl | rfl | rfl | rfl <;> decide
  · exact af.f3.elim .inl (fun h => .inr (.inl h))
  · exact af.f2.elim .inl (fun h => .inr (.inl h))
  · exact af.f1.elim .inl (fun h => .inr (.inl h))
  · show c ∈ [5, 4, 3, 2, 1]
    simp
    omega
  · rw [rensTJ W hw h21 h2 h3 _ m0 m4 m5]
    exact hts
end
end Go.Proofs.Ythooafgfpnedhaa.specsJudge
