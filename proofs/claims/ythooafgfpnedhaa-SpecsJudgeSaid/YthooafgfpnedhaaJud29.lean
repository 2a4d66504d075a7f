/- Rows cut and put together; calls placed anywhere. Conditions: those that each theorem names, and no others. -/
import Derived.Test.YthooafgfpnedhaaJud28
namespace Go.Proofs.Ythooafgfpnedhaa.specsJudge
open Go Go.Mini
/-! ### rows cut and put together -/
theorem rowsOf_append {α : Type} {f : α → List AV} (a b : List α) : rowsOf f (a ++ b) = rowsOf f a ++ rowsOf f b := by simp [rowsOf]
theorem rowsOf_len {α : Type} {f : α → List AV} {n : Nat} (hf : ∀ x, (f x).length = n) : ∀ l : List α, (rowsOf f l).length = l.length * n
  | [] => by simp [rowsOf]
  | x :: l => by
    have h := rowsOf_len hf l
    show (f x ++ rowsOf f l).length = _
    rw [List.length_append, hf, h, List.length_cons, Nat.succ_mul, Nat.add_comm]
section
variable {α : Type} {f : α → List AV} {n : Nat} (hf : ∀ x, (f x).length = n) {s : AS} {b : Nat} {ro : Bool} {l : List α}
include hf
theorem first_take (h : s.get b = some (.cells ro (rowsOf f l))) {i : Nat} (hi : i ≤ l.length) : firstA s n i (.osl b 0 i n) = some (rowsOf f (l.take i)) := by
  simp only [firstA, readA, h, List.drop_zero]
  rw [show rowsOf f l = rowsOf f (l.take i) ++ rowsOf f (l.drop i) from by rw [← rowsOf_append, List.take_append_drop]]
  refine takeN_row ?_
  rw [rowsOf_len hf, List.length_take, Nat.min_eq_left hi]
theorem first_drop (h : s.get b = some (.cells ro (rowsOf f l))) {i : Nat} (hi : i ≤ l.length) : firstA s n (l.length - i) (.osl b (i * n) (l.length - i) n) = some (rowsOf f (l.drop i)) := by
  simp only [firstA, readA, h]
  have e : (rowsOf f l).drop (i * n) = rowsOf f (l.drop i) := by
    conv => lhs; rw [show rowsOf f l = rowsOf f (l.take i) ++ rowsOf f (l.drop i) from by rw [← rowsOf_append, List.take_append_drop]]
    refine List.drop_left' ?_
    rw [rowsOf_len hf, List.length_take, Nat.min_eq_left hi]
  rw [e]
  refine takeN_all ?_
  rw [rowsOf_len hf, List.length_drop]
end
section
variable {t t2 : TypeId} {n b k m : Nat} {s : AS} {y : AV} {E R : List AV} (ht : rowT Try.prog t t2 n = true) (hy : sliceLen y = some m) (hF : firstA s n m y = some E) (ho : E.all AV.one = true)
include ht hy hF ho
theorem app_ox (hb : s.get b = some (.cells false R)) (hR : R.length = k * n) (hr : R.all AV.one = true) (hm : m ≠ 0) (hk : k + m ≤ 16777216) :
    appendA Try.prog s t t2 (.osl b 0 k n) y = some (.osl s.nx 0 (k + m) n, (s.set b .dead).push (.cells false (R ++ E))) := by
  obtain ⟨elem, e2, i, z, size, u1, u2, u3, u4, u5, rfl, u6, u7⟩ := rowT_inv ht
  have hd : readA s b 0 (k * (size + 1)) = some R := by
    simp only [readA, hb, List.drop_zero]
    exact takeN_all hR
  have hs : small (k + m) = true := Nat.ble_eq_true_of_le hk
  have hw : rwAt s b = true := by simp only [rwAt, hb]
  have hz : Nat.beq (size + 1) (size + 1) = true := Nat.beq_refl _
  have h10 : Nat.beq m 0 = false := by
    cases m
    · exact absurd rfl hm
    · rfl
  simp only [appendA, u1, u2, u3, u4, u5, hy, u6, u7, hF, ho, hd, hs, hw, hr, hz, h10, Bool.and_self, Bool.not_true, Bool.false_eq_true, if_false, if_true]
theorem app_nx (hm : m ≠ 0) (hk : m ≤ 16777216) : appendA Try.prog s t t2 .nilSlice y = some (.osl s.nx 0 m n, s.push (.cells false E)) := by
  obtain ⟨elem, e2, i, z, size, u1, u2, u3, u4, u5, rfl, u6, u7⟩ := rowT_inv ht
  have hs : small m = true := Nat.ble_eq_true_of_le hk
  have h10 : Nat.beq m 0 = false := by
    cases m
    · exact absurd rfl hm
    · rfl
  simp only [appendA, u1, u2, u3, u4, u5, hy, u6, u7, hF, ho, hs, h10, Bool.and_self, Bool.not_true, Bool.false_eq_true, if_false, if_true]
theorem app_n0 (hm : m = 0) : appendA Try.prog s t t2 .nilSlice y = some (.nilSlice, s) := by
  obtain ⟨elem, e2, i, z, size, u1, u2, u3, u4, u5, rfl, u6, u7⟩ := rowT_inv ht
  subst hm
  have h10 : Nat.beq 0 0 = true := rfl
  simp only [appendA, u1, u2, u3, u4, u5, hy, u6, u7, hF, ho, h10, Bool.and_self, Bool.not_true, Bool.false_eq_true, if_false, if_true]
theorem app_o0 (hm : m = 0) : appendA Try.prog s t t2 (.osl b 0 k n) y = some (.osl b 0 k n, s) := by
  obtain ⟨elem, e2, i, z, size, u1, u2, u3, u4, u5, rfl, u6, u7⟩ := rowT_inv ht
  subst hm
  have h10 : Nat.beq 0 0 = true := rfl
  have hz : Nat.beq (size + 1) (size + 1) = true := Nat.beq_refl _
  simp only [appendA, u1, u2, u3, u4, u5, hy, u6, u7, hF, ho, h10, hz, Bool.and_self, Bool.not_true, Bool.false_eq_true, if_false, if_true]
end
theorem bound_i {i n : Nat} (h : i ≤ n) : boundA (some (.int .i64 (Int.ofNat i))) 0 n = some i := by
  simp only [boundA]
  simp [h]
section
variable {t elem : TypeId} {z : Nat} (h1 : Try.prog.underlying t = some (.slice elem)) (h2 : sizeA Try.prog elem = some z)
include h1 h2
theorem sli_to {b n i : Nat} (h : i ≤ n) : (Qst.sli t (.osl b 0 n z) none (some (.int .i64 (Int.ofNat i))) none (.osl b 0 i z)).ok Try.prog := by
  simp only [Qst.ok, sliceA, h1, h2, boundA]
  simp [h, Nat.beq_refl]
theorem sli_from {b n i : Nat} (h : i ≤ n) : (Qst.sli t (.osl b 0 n z) (some (.int .i64 (Int.ofNat i))) none none (.osl b (i * z) (n - i) z)).ok Try.prog := by
  simp only [Qst.ok, sliceA, h1, h2, boundA]
  simp [h, Nat.beq_refl]
theorem idx_osl {b n i : Nat} (h : i < n) : (Qst.idx t (.osl b 0 n z) (.int .i64 (Int.ofNat i)) (.ptr b (i * z))).ok Try.prog := by
  simp only [Qst.ok, indexAddrA, h1, h2]
  simp [h]
end
/-! ### what a call gives back, wherever it lies -/
section
variable {f : FuncId} {args : List AV} {row cs : List AV} {b n z : Nat} {s1 : AS}
theorem put_osl (h : Sound Try.prog (.call f args (canS [] row 1 1)) ⟨.ret, [.osl b 0 n z], s1⟩) (hb : 1 ≤ b) (ho : s1.get b = some (.cells false cs)) (hcs : namess (fun _ => false) cs = true) (hrow : namess (fun _ => false) row = true) (ha : namess (fun b => Nat.blt b 1) args = true) {s : AS} {ro : Bool} {b0 : Nat} (h0 : s.get b0 = some (.cells ro row)) :
    Sound Try.prog (.call f (rens (fun _ => b0) args) s) ⟨.ret, [.osl s.nx 0 n z], s.push (.cells false cs)⟩ := by
  have hob : objAt s1 b = .cells false cs := by simp [objAt, ho]
  have := Sound.putR (bs0 := []) h noG (fun _ => b0) [b] s hrow ⟨ro, h0⟩ (by decide) trivial (fun b hb => by cases hb) (fun b hb => by cases hb) List.nodup_nil (by simp) (fun c hc => by
    simp only [List.mem_singleton] at hc
    subst hc
    exact ⟨hb, by rw [hob]; rfl, by rw [hob]; exact namess_sub (fun _ h => by cases h) hcs⟩) ha (by show pN 1 [b] b = true; simp [pN])
  have e3 : pR 1 [b] (fun _ => b0) s.nx b = s.nx := by
    unfold pR
    rw [if_neg (by omega)]
    simp
  have eC : (AObj.cells false cs).ren (pR 1 [b] (fun _ => b0) s.nx) = .cells false cs := by
    show AObj.cells false (rens _ cs) = _
    rw [rens_no hcs]
  simp only [List.map_nil, setL, List.map_cons, pushL, hob, eC, AV.ren, e3] at this
  exact this
theorem put_nil (h : Sound Try.prog (.call f args (canS [] row 1 1)) ⟨.ret, [.nilSlice], s1⟩) (hrow : namess (fun _ => false) row = true) (ha : namess (fun b => Nat.blt b 1) args = true) {s : AS} {ro : Bool} {b0 : Nat} (h0 : s.get b0 = some (.cells ro row)) :
    Sound Try.prog (.call f (rens (fun _ => b0) args) s) ⟨.ret, [.nilSlice], s.push phO⟩ :=
  Sound.ghost phO (Sound.putR (bs0 := []) h noG (fun _ => b0) [] s hrow ⟨ro, h0⟩ (by decide) trivial (fun b hb => by cases hb) (fun b hb => by cases hb) List.nodup_nil List.nodup_nil (fun b hb => by cases hb) ha rfl)
theorem put_osl0 (h : Sound Try.prog (.call f args ⟨⟨[], 0, none, []⟩, 1⟩) ⟨.ret, [.osl b 0 n z], s1⟩) (hb : 1 ≤ b) (ho : s1.get b = some (.cells false cs)) (hcs : namess (fun _ => false) cs = true) (ha : namess (fun _ => false) args = true) (s : AS) :
    Sound Try.prog (.call f args s) ⟨.ret, [.osl s.nx 0 n z], s.push (.cells false cs)⟩ := by
  have hob : objAt s1 b = .cells false cs := by simp [objAt, ho]
  have := Sound.put (bs0 := []) h noG (fun b => b) [b] s trivial (fun b hb => by cases hb) List.nodup_nil (by simp) (fun c hc => by
    simp only [List.mem_singleton] at hc
    subst hc
    exact ⟨hb, by rw [hob]; rfl, by rw [hob]; exact namess_sub (fun _ h => by cases h) hcs⟩) (namess_sub (fun _ h => by cases h) ha) (by show pN 1 [b] b = true; simp [pN])
  have e3 : pR 1 [b] (fun b => b) s.nx b = s.nx := by
    unfold pR
    rw [if_neg (by omega)]
    simp
  have eC : (AObj.cells false cs).ren (pR 1 [b] (fun b => b) s.nx) = .cells false cs := by
    show AObj.cells false (rens _ cs) = _
    rw [rens_no hcs]
  rw [rens_no ha] at this
  simp only [List.map_nil, setL, List.map_cons, pushL, hob, eC, AV.ren, e3] at this
  exact this
theorem put_val0 {v : AV} (h : Sound Try.prog (.call f args ⟨⟨[], 0, none, []⟩, 1⟩) ⟨.ret, [v], s1⟩) (ha : namess (fun _ => false) args = true) (hv : v.names (fun _ => false) = true) (s : AS) : Sound Try.prog (.call f args s) ⟨.ret, [v], s⟩ := by
  have := Sound.put (bs0 := []) h noG (fun b => b) [] s trivial (fun b hb => by cases hb) List.nodup_nil List.nodup_nil (fun b hb => by cases hb) (namess_sub (fun _ h => by cases h) ha) (names_sub (fun _ h => by cases h) hv)
  rw [rens_no ha, show v.ren _ = v from by rw [ren_congr (p := fun _ => false) (π' := fun b => b) (fun _ h => by cases h) hv, ren_id]] at this
  exact this
end
end Go.Proofs.Ythooafgfpnedhaa.specsJudge
