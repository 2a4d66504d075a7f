/- The first loop of the law, where it lies. Conditions: those that each theorem names, and no others. -/
import Derived.Test.YthooafgfpnedhaaWitn34
namespace Go.Proofs.Ythooafgfpnedhaa.specsWitness
open Go Go.Mini
theorem rens_TV5 {av x49 x58 : AV} (h49 : X12 x49) (h58 : X12 x58) {π : Nat → Nat} (h0 : π 0 = 2) {n tu : Nat} {N : Nat} (ha : av.ren π = .osl 4 0 N 9) : rens π (TV n av x49 x58 tu n) = TV5 n N x49 x58 tu := by
  show [uu, uu, .int .u8 (Int.ofNat tu), uu, uu, uu, .bool false, .osl (π 0) 0 n 9, uu, av.ren π, .int .i64 (Int.ofNat n)] ++ rens π (List.replicate 38 uu) ++ [x49.ren π] ++ rens π (List.replicate 8 uu) ++ [x58.ren π] ++ rens π (List.replicate 86 uu) = _
  rw [h0, ha, h49.ren, h58.ren, rensW, rensW, rensW]
  rfl
section
variable {L : List Call9} {n tu : Nat} (hL : L.length = n) (hn : 0 < n) (hs : n ≤ 60) (ht : tu ≤ 255)
include hL hn hs ht
/-- Loop 1, in the law's state. -/
theorem loop1C {x49 x58 : AV} (h58 : X12 x58) {s : AS} {ro : Bool} (h2 : s.get 2 = some (.cells ro (rowsOf callC L))) (hnx : s.nx = 4) (h49n : x49.names (fun b => Nat.blt b 1) = true) : ∃ y49 y58, X12 y49 ∧ X12 y58 ∧
    Sound Try.prog (.code (.loop (loopAt Try.prog 6 0)) (rens (fun _ => 2) (TV n .nilSlice x49 x58 tu 0)) s) ⟨.exit 0, TV5 n (AW L n tu n).length y49 y58 tu, s.push (.cells false (rowsOf callC (AW L n tu n)))⟩ := by
  obtain ⟨y49, y58, k49, k58, s1, π1, S1, A, n1⟩ := v_all hL hn hs ht (x49 := x49) h58
  refine ⟨y49, y58, k49, k58, ?_⟩
  obtain ⟨o, e1, e2, e3, e4⟩ := A.in_.rw 1 (by simp)
  have eo : o = .cells false (rowsOf callC (AW L n tu n)) := (Option.some.inj e1).symm
  subst eo
  rw [(freeCalls _).ren] at e4
  have hm : 1 ≤ π1 1 := by
    by_cases h : 1 ≤ π1 1
    · exact h
    · have h0 : π1 1 = 0 := by omega
      have := A.stays 0 (show 0 < 1 by decide) (by simp)
      rw [← h0, e4, h0] at this
      cases this
  have ob : objAt s1 (π1 1) = .cells false (rowsOf callC (AW L n tu n)) := by simp [objAt, e4]
  have h0 : π1 0 = 0 := A.in_.zero
  rw [rens_TV k49 k58 h0] at S1
  have := Sound.putC (bs0 := []) (Fz := [(0, rowsOf callC L)]) (n0 := 1) (nx0 := 1) S1 noG (fun _ => 2) [π1 1] s (fun x hx => by
    have hx : x = (0, rowsOf callC L) := by simpa using hx
    subst hx
    exact ⟨show 0 < 1 by decide, by simp, names_calls _ _, ⟨ro, h2⟩, fun b hb => by cases hb⟩) trivial (fun b hb => by cases hb) List.nodup_nil (by simp) (fun b hb => by
    have hb : b = π1 1 := by simpa using hb
    subst hb
    exact ⟨hm, by rw [ob]; rfl, by rw [ob]; exact names_calls _ _⟩) (by
    unfold TV
    simp only [namess, List.replicate, h49n, h58.nm, AV.names, namess, Bool.and_true, Bool.and_self]
    rfl) (by
    have p0 : pN 1 [π1 1] 0 = true := by simp [pN]
    have p1 : pN 1 [π1 1] (π1 1) = true := by simp [pN]
    unfold TV
    simp only [namess, List.replicate, k49.nm, k58.nm, AV.names, AV.ren, namess, p0, p1, Bool.and_self])
  rw [rens_TV5 k49 k58 (N := (AW L n tu n).length) (by simp [pR]) (by
    show AV.osl (pR 1 [π1 1] (fun _ => 2) s.nx (π1 1)) 0 _ 9 = _
    unfold pR
    rw [if_neg (by omega), hnx]
    simp)] at this
  simp only [List.map_nil, setL, List.map_cons, pushL, ob, (freeCalls _).ren] at this
  exact this
end
end Go.Proofs.Ythooafgfpnedhaa.specsWitness
