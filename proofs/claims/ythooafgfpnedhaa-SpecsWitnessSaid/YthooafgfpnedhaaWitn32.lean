/- The calls turned, with refused ones among them. Conditions: those that each theorem names, and no others. -/
import Derived.Test.YthooafgfpnedhaaWitn31
namespace Go.Proofs.Ythooafgfpnedhaa.specsWitness
open Go Go.Mini
/-! ### SpecsWitness: the calls turned, with refused ones among them -/
def refC (i : Nat) : Call9 := (Int.ofNat 0, Int.ofNat 0, Int.ofNat 1, Int.ofNat 0, Int.ofNat 3, Int.ofNat 0, Int.ofNat i, Int.negSucc 0, Int.ofNat i)
def atW (L : List Call9) (n tu i : Nat) : Call9 := (L[(i + tu) % n]?).getD z9
def AW (L : List Call9) (n tu : Nat) : Nat → List Call9
  | 0 => []
  | i + 1 => AW L n tu i ++ [atW L n tu i] ++ if i % 5 = 4 then [refC i] else []
theorem AW_len (L : List Call9) (n tu : Nat) : ∀ i, i ≤ (AW L n tu i).length ∧ (AW L n tu i).length ≤ 2 * i
  | 0 => ⟨Nat.le_refl _, Nat.le_refl _⟩
  | i + 1 => by
    have h := AW_len L n tu i
    simp only [AW, List.length_append, List.length_cons, List.length_nil]
    split <;> simp only [List.length_cons, List.length_nil] <;> omega
theorem remq' {y n j : Nat} (hn : 0 < n) (h : j = y % n) : (if (Int.ofNat n) = 0 then none else some (AV.int .i64 ((Int.ofNat y).tmod (Int.ofNat n)))) = some (AV.int .i64 (Int.ofNat j)) := remq hn h
theorem rens_TV {av x49 x58 : AV} (h49 : X12 x49) (h58 : X12 x58) {π : Nat → Nat} (h0 : π 0 = 0) (n tu i : Nat) : rens π (TV n av x49 x58 tu i) = TV n (av.ren π) x49 x58 tu i := by
  show [uu, uu, .int .u8 (Int.ofNat tu), uu, uu, uu, .bool false, .osl (π 0) 0 n 9, uu, av.ren π, .int .i64 (Int.ofNat i)] ++ rens π (List.replicate 38 uu) ++ [x49.ren π] ++ rens π (List.replicate 8 uu) ++ [x58.ren π] ++ rens π (List.replicate 86 uu) = _
  rw [h0, h49.ren, h58.ren, rensW, rensW, rensW]
  rfl
theorem names_TV {av x49 x58 : AV} (h49 : X12 x49) (h58 : X12 x58) {m : Nat} (hm : 0 < m) (ha : av.names (fun b => Nat.blt b m) = true) (n tu i : Nat) : namess (fun b => Nat.blt b m) (TV n av x49 x58 tu i) = true := by
  have h0 : Nat.blt 0 m = true := by simpa using hm
  unfold TV
  simp only [namess, List.replicate, h0, ha, h49.nm, h58.nm, AV.names, namess, Bool.and_self]
section
variable {L : List Call9} {n tu : Nat}
theorem canV {C0 : AS} {foot0 : List Nat} {T ts1 : List AV} {c : Code} {e : AExit} {i : Nat} {bs1 : List (Nat × AObj)} {len1 nx1 m : Nat} {esc1 : Option Nat} {wr1 : List Nat} {A : List Call9} {x49 x58 : AV} (h49 : X12 x49) (h58 : X12 x58)
    (hr : Sound Try.prog (.code c T C0) ⟨e, ts1, ⟨⟨bs1, len1, esc1, wr1⟩, nx1⟩⟩) (hm : m ≠ 0) (g0 : getB bs1 0 = some (.cells true (rowsOf callC L))) (g1 : getB bs1 m = some (.cells false (rowsOf callC A)))
    (hcov : eachX (fun b o => o = .dead ∨ Free o ∨ b = 0) bs1) (hkeys : (bs1.all fun y => Nat.blt y.1 nx1) = true) (hnx : C0.nx ≤ nx1) (hst : ∀ b, b < C0.nx → b ∉ foot0 → getB bs1 b = C0.get b)
    (hts : seesT (fun b => b) (fun _ => true) (TV n (.osl m 0 A.length 9) x49 x58 tu i) ts1) :
    Go.Mini.Good Try.prog [(0, rowsOf callC L)] C0 foot0 T c e (TV n (.osl 1 0 A.length 9) x49 x58 tu i) (canS [(1, .cells false (rowsOf callC A))] (rowsOf callC L) 2 2) [1] := by
  refine Good.can (bsC := [(1, .cells false (rowsOf callC A))]) (nxC := 2) hr noG (fun b => if b = 1 then m else b) rfl (names_calls _ _) ⟨⟨show 0 < 1 by decide, show 1 < 2 by decide, rfl, rfl, names_calls _ _, by rw [(freeCalls A).ren]; exact g1⟩, trivial⟩ (show [1].Nodup by decide) (fun b hb c hc _ => ?_) (fun c hc => ?_) g0 (eachX_mono (fun b o h => ?_) hcov) hkeys hnx (by decide) (fun c hc h => .inl ?_) hst ?_ (names_TV h49 h58 (by decide) rfl _ _ _)
  · have hb : b = 1 := by simpa using hb
    have hc : c = 1 := by simpa using hc
    rw [hb, hc]
  · have hc : c = 1 := by simpa using hc
    subst hc
    exact hm
  · rcases h with h | h | h
    · exact .inl h
    · exact .inr (.inl h)
    · exact .inr (.inr ⟨0, .inl rfl, h.symm⟩)
  · show c ∈ [1]
    simp
    omega
  · rw [rens_TV h49 h58 rfl]
    exact hts
end
end Go.Proofs.Ythooafgfpnedhaa.specsWitness
