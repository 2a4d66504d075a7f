/- The witness of the calls turned is the calls in their order. Conditions: those that each theorem names, and no others. -/
import Derived.Test.YthooafgfpnedhaaWitn38
namespace Go.Proofs.Ythooafgfpnedhaa.specsWitness
open Go Go.Mini
/-! ### SpecsWitness: the witness of the calls turned -/
def LV (X : List Call9) : List Nat := livesTo (fun d => (X[d]?).getD z9) X.length
theorem LV_nil : LV [] = [] := rfl
theorem LV_snoc (X : List Call9) (z : Call9) : LV (X ++ [z]) = if liveF z then LV X ++ [X.length] else LV X := by
  unfold LV livesTo
  have e0 : (List.range X.length).filter (fun j => liveF (((X ++ [z])[j]?).getD z9)) = (List.range X.length).filter (fun j => liveF ((X[j]?).getD z9)) := by
    refine List.filter_congr (fun j hj => ?_)
    have hj : j < X.length := by simpa using hj
    rw [List.getElem?_append_left hj]
  have e1 : ((X ++ [z])[X.length]?).getD z9 = z := by simp
  rw [List.length_append, show [z].length = 1 from rfl, List.range_succ, List.filter_append, e0]
  by_cases h : liveF z = true
  · rw [if_pos h]
    simp [h]
  · rw [if_neg h]
    simp [h]
def PW (L : List Call9) (n tu i : Nat) : Nat := (AW L n tu i).length
theorem AW_mem {L : List Call9} {n tu : Nat} {p : Call9 → Prop} (h1 : ∀ i, p (atW L n tu i)) (h2 : ∀ i, p (refC i)) : ∀ i, ∀ z ∈ AW L n tu i, p z
  | 0, z, hz => by cases hz
  | i + 1, z, hz => by
    unfold AW at hz
    rcases List.mem_append.1 hz with h | h
    · rcases List.mem_append.1 h with h | h
      · exact AW_mem h1 h2 i z h
      · rw [List.mem_singleton.1 h]
        exact h1 i
    · split at h
      · rw [List.mem_singleton.1 h]
        exact h2 i
      · cases h
theorem LV_AW {L : List Call9} {n tu : Nat} (hl : ∀ i, liveF (atW L n tu i) = true) : ∀ i, LV (AW L n tu i) = (List.range i).map (PW L n tu)
  | 0 => rfl
  | i + 1 => by
    have ih := LV_AW hl i
    have e1 : LV (AW L n tu i ++ [atW L n tu i]) = (List.range (i + 1)).map (PW L n tu) := by
      rw [LV_snoc, if_pos (hl i), ih, List.range_succ, List.map_append]
      rfl
    unfold AW
    split
    · rw [LV_snoc, if_neg (by simp [liveF, atF, refC]), e1]
    · rw [List.append_nil, e1]
theorem AW_get {L : List Call9} {n tu i : Nat} : ∀ m, i < m → (AW L n tu m)[PW L n tu i]? = some (atW L n tu i)
  | 0, h => by omega
  | m + 1, h => by
    unfold AW
    by_cases he : i = m
    · subst he
      unfold PW
      rw [List.append_assoc, List.getElem?_append_right (Nat.le_refl _)]
      simp
    · have ih := AW_get (L := L) (n := n) (tu := tu) m (show i < m by omega)
      have hlt := (List.getElem?_eq_some_iff.1 ih).1
      rw [List.append_assoc, List.getElem?_append_left hlt]
      exact ih
/-- Where the law's own call k lies among the calls turned. -/
def QW (L : List Call9) (n tu k : Nat) : Nat := PW L n tu ((k + (n - tu % n)) % n)
theorem turn_back {n tu k : Nat} (hk : k < n) : ((k + (n - tu % n)) % n + tu) % n = k := by
  have h1 : tu % n < n := Nat.mod_lt _ (by omega)
  have h2 : k + (n - tu % n) + tu = k + n * (1 + tu / n) := by
    have := Nat.div_add_mod tu n
    rw [Nat.mul_add, Nat.mul_one]
    omega
  rw [Nat.mod_add_mod, h2, Nat.add_mul_mod_self_left, Nat.mod_eq_of_lt hk]
theorem turn_perm {n c : Nat} (hc : c ≤ n) : ((List.range n).map (fun k => (k + c) % n)).Perm (List.range n) := by
  have e : (List.range n).map (fun k => (k + c) % n) = List.range' c (n - c) ++ List.range' 0 c := by
    refine List.ext_getElem (by simp; omega) (fun i h1 h2 => ?_)
    have h1 : i < n := by simpa using h1
    by_cases h : i < n - c
    · rw [List.getElem_append_left (by simpa using h)]
      simp only [List.getElem_map, List.getElem_range, List.getElem_range', Nat.one_mul]
      rw [Nat.mod_eq_of_lt (by omega)]
      omega
    · rw [List.getElem_append_right (by simp; omega)]
      simp only [List.getElem_map, List.getElem_range, List.getElem_range', Nat.one_mul, List.length_range']
      rw [Nat.mod_eq_sub_mod (by omega), Nat.mod_eq_of_lt (by omega)]
      omega
  rw [e]
  refine List.perm_append_comm.trans ?_
  have h := List.range'_append_1 (s := 0) (m := c) (n := n - c)
  rw [Nat.zero_add, show c + (n - c) = n from by omega] at h
  rw [h, ← List.range_eq_range']
section
variable {f : Nat → Do3} {τ : Nat → Nat} {n tu : Nat}
theorem at_LF {n : Nat} (hn : 0 < n) (i : Nat) : atW (LF f τ n) n tu i = callM f τ ((i + tu) % n) := by
  have h := Nat.mod_lt (i + tu) hn
  simp [atW, LF, h]
theorem AQ {k : Nat} (hk : k < n) : (AW (LF f τ n) n tu n)[QW (LF f τ n) n tu k]? = some (callM f τ k) := by
  have hn : 0 < n := by omega
  unfold QW
  rw [AW_get n (Nat.mod_lt _ hn), at_LF hn, turn_back hk]
theorem live_callM (i : Nat) : liveF (callM f τ i) = true := rfl
/-- The witness: the law's own calls, in their order. -/
theorem line_turn (hn : 0 < n) {D : List Nat} (hp : D.Perm (LV (AW (LF f τ n) n tu n))) (hs : Srt (fun i => atF (((AW (LF f τ n) n tu n)[i]?).getD z9)) D) : D = (List.range n).map (QW (LF f τ n) n tu) := by
  have e0 := LV_AW (L := LF f τ n) (n := n) (tu := tu) (fun i => by rw [at_LF hn]; exact live_callM _) n
  rw [e0] at hp
  have p2 : ((List.range n).map (QW (LF f τ n) n tu)).Perm ((List.range n).map (PW (LF f τ n) n tu)) := by
    have := (turn_perm (n := n) (c := n - tu % n) (by omega)).map (PW (LF f τ n) n tu)
    rw [List.map_map] at this
    exact this
  refine srt_unique (k := fun i => atF (((AW (LF f τ n) n tu n)[i]?).getD z9)) hs ?_ (hp.trans p2.symm)
  refine List.pairwise_map.2 (List.Pairwise.imp_of_mem (fun {a b} ha hb hab => ?_) (List.pairwise_lt_range (n := n)))
  have ha : a < n := by simpa using ha
  have hb : b < n := by simpa using hb
  refine .inl ?_
  show atF (((AW (LF f τ n) n tu n)[QW (LF f τ n) n tu a]?).getD z9) < atF (((AW (LF f τ n) n tu n)[QW (LF f τ n) n tu b]?).getD z9)
  rw [AQ ha, AQ hb]
  show Int.ofNat (stM τ (a + 1)) < Int.ofNat (stM τ (b + 1))
  have := stM_lt τ (i := a + 1) (j := b + 1) (by omega)
  simp only [Int.ofNat_eq_natCast]
  omega
theorem judge_turn {g : Nat → Call9} {opN Q : Nat → Nat} (hg : ∀ d, d < n → g (Q d) = callM f τ d) (ho : ∀ d, d < n → opN (Q d) = opM f d) : ∀ (k j : Nat), n - j = k → judgeL g opN ((List.range' j (n - j)).map Q) (psM f j) = none := by
  intro k
  induction k with
  | zero =>
    intro j hk'
    rw [hk']
    rfl
  | succ k ih =>
    intro j hk'
    rw [show n - j = (n - (j + 1)) + 1 from by omega, List.range'_succ]
    have e := hg j (by omega)
    have k1 : kF (g (Q j)) = (f j).2.1 := by rw [e]; rfl
    have k2 : vF (g (Q j)) = (f j).2.2 := by rw [e]; rfl
    have hgood : badF (g (Q j)) (stepP (psM f j) (opM f j) (f j).2.1 (f j).2.2).1 = false := by
      rw [e]
      exact good_call j
    show (if badF (g (Q j)) (stepP (psM f j) (opN (Q j)) (kF (g (Q j))) (vF (g (Q j)))).1 then some (Q j) else judgeL g opN ((List.range' (j + 1) (n - (j + 1))).map Q) (stepP (psM f j) (opN (Q j)) (kF (g (Q j))) (vF (g (Q j)))).2) = _
    rw [ho j (by omega), k1, k2, hgood]
    exact ih (j + 1) (by omega)
theorem F_ok {k i : Nat} (h : k < i) : toF (callM f τ i) = Int.negSucc 0 ∨ ¬ toF (callM f τ i) < fromF (callM f τ k) := by
  show toM τ i = Int.negSucc 0 ∨ ¬ toM τ i < Int.ofNat (stM τ (k + 1) - τ k / 3 % 9)
  unfold toM
  split
  · exact .inl rfl
  · refine .inr ?_
    have := stM_lt τ (i := k + 1) (j := i + 1) (by omega)
    simp only [Int.ofNat_eq_natCast]
    omega
theorem opA (i : Nat) : ∀ z ∈ AW (LF f τ n) n tu i, z.2.1 = Int.ofNat z.2.1.toNat ∧ z.2.1.toNat < 8 := by
  refine AW_mem (p := fun z => z.2.1 = Int.ofNat z.2.1.toNat ∧ z.2.1.toNat < 8) (fun j => ?_) (fun j => ⟨rfl, by show 0 < 8; decide⟩) i
  unfold atW
  cases h : (LF f τ n)[(j + tu) % n]? with
  | none => exact ⟨rfl, by show 0 < 8; decide⟩
  | some z =>
    have hz := List.mem_of_getElem? h
    obtain ⟨d, _, rfl⟩ := List.mem_map.1 hz
    exact ⟨rfl, opM_lt f d⟩
end
end Go.Proofs.Ythooafgfpnedhaa.specsWitness
