/- The memory of the document, wherever it lies. Conditions: those that each theorem names, and no others. -/
import Derived.Test.YtchekpapgfojhaaGreatDoorBack4
import Derived.Test.YtchekpapgfojhaaGreatDoorMini3
namespace Go.Proofs.YtchekpapgfojhaaGreatDoor.ctlsFallback
open Go Go.Mini
/-! ### the row of words of the document's memory -/
def wc (x : A3 × Nat) : List AV := ak x.1 ++ [.int .u64 (Int.ofNat x.2)]
theorem splice_pre {v : AV} : ∀ (A B : List AV) (j : Nat), Mini.splice (A.length + j) [v] (A ++ B) = (Mini.splice j [v] B).map (A ++ ·)
  | [], B, j => by simp
  | a :: A, B, j => by
    show Mini.splice (A.length + 1 + j) [v] (a :: (A ++ B)) = _
    rw [show A.length + 1 + j = (A.length + j) + 1 from by omega]
    show (match Mini.splice (A.length + j) [v] (A ++ B) with
      | some l => some (a :: l)
      | none => none) = _
    rw [splice_pre A B j]
    cases Mini.splice j [v] B <;> rfl
theorem splice_post {v : AV} : ∀ (A B : List AV) (j : Nat) (C : List AV), Mini.splice j [v] A = some C → Mini.splice j [v] (A ++ B) = some (C ++ B)
  | [], B, 0, C, h => by cases h
  | [], B, j + 1, C, h => by
    unfold Mini.splice at h
    split at h <;> cases h
  | a :: A, B, 0, C, h => by
    have e0 : ∀ D : List AV, Mini.splice 0 [v] (a :: D) = some (v :: D) := fun D => by simp only [Mini.splice]
    rw [e0] at h
    rw [← Option.some.inj h]
    exact e0 (A ++ B)
  | a :: A, B, j + 1, C, h => by
    have h : (match Mini.splice j [v] A with
      | some l => some (a :: l)
      | none => none) = some C := h
    cases hs : Mini.splice j [v] A with
    | none =>
      rw [hs] at h
      cases h
    | some l =>
      rw [hs] at h
      rw [← Option.some.inj h]
      show (match Mini.splice j [v] (A ++ B) with
        | some l => some (a :: l)
        | none => none) = _
      rw [splice_post A B j l hs]
      rfl
theorem splice_row {v : Nat} : ∀ (ms : MS) (i : Nat) (x : A3 × Nat), ms[i]? = some x → Mini.splice (i * 4 + 3) [.int .u64 (Int.ofNat v)] (rowsOf wc ms) = some (rowsOf wc (ms.set i (x.1, v)))
  | [], i, x, hi => by simp at hi
  | y :: t, 0, x, hi => by
    have hx : y = x := by simpa using hi
    subst hx
    show Mini.splice 3 _ (wc y ++ rowsOf wc t) = some (wc (y.1, v) ++ rowsOf wc t)
    exact splice_post _ _ _ _ rfl
  | y :: t, i + 1, x, hi => by
    have ih := splice_row (v := v) t i x (by simpa using hi)
    show Mini.splice ((i + 1) * 4 + 3) _ (wc y ++ rowsOf wc t) = some (wc y ++ rowsOf wc (t.set i (x.1, v)))
    rw [show (i + 1) * 4 + 3 = (wc y).length + (i * 4 + 3) from by show _ = 4 + _; omega, splice_pre, ih]
    rfl
theorem uW : Tryz.prog.underlying 74 = some (.slice 125) := by kernel_rfl
theorem sW : sizeA Tryz.prog 125 = some 4 := by kernel_rfl
theorem aU : isAggA Tryz.prog 45 = some false := by kernel_rfl
theorem sU : sizeA Tryz.prog 45 = some 1 := by kernel_rfl
theorem aA : isAggA Tryz.prog 44 = some true := by kernel_rfl
theorem sA : sizeA Tryz.prog 44 = some 3 := by kernel_rfl
theorem rW : rowT Tryz.prog 74 74 4 = true := by kernel_rfl
theorem ld_key {s : AS} {b i : Nat} {ms : MS} {x : A3 × Nat} (hs : s.get b = some (.cells false (rowsOf wc ms))) (hi : ms[i]? = some x) : loadA Tryz.prog s 44 (.ptr b (i * 4 + 0)) = some (.agg (ak x.1)) := by
  obtain ⟨r, hr⟩ := rows_at (f := wc) (n := 4) (fun _ => rfl) hi
  rw [Nat.add_zero]
  simp only [loadA, aA, sA, readA, hs, hr]
  rw [show wc x ++ r = ak x.1 ++ ([.int .u64 (Int.ofNat x.2)] ++ r) from by simp [wc]]
  rw [takeN_row (n := 3) rfl]
theorem ld_val {s : AS} {b i : Nat} {ms : MS} {x : A3 × Nat} (hs : s.get b = some (.cells false (rowsOf wc ms))) (hi : ms[i]? = some x) : loadA Tryz.prog s 45 (.ptr b (i * 4 + 3)) = some (.int .u64 (Int.ofNat x.2)) :=
  ld_rowCell (f := wc) (n := 4) (i := 3) (fun _ => rfl) aU hs hi rfl
theorem st_val {s : AS} {b i v : Nat} {ms : MS} {x : A3 × Nat} (hs : s.get b = some (.cells false (rowsOf wc ms))) (hi : ms[i]? = some x) : storeA Tryz.prog s 45 (.ptr b (i * 4 + 3)) (.int .u64 (Int.ofNat v)) = some (s.set b (.cells false (rowsOf wc (ms.set i (x.1, v))))) := by
  simp only [storeA, sU, AV.cells]
  show (if Nat.beq 1 1 then writeA s b (i * 4 + 3) [.int .u64 (Int.ofNat v)] else none) = _
  rw [if_pos (show Nat.beq 1 1 = true from rfl)]
  simp only [writeA, hs, splice_row ms i x hi]
  rfl
def LV (ms : MS) (b : Nat) : AV := if ms = [] then .nilSlice else .osl b 0 ms.length 4
theorem ln_LV (s : AS) (ms : MS) (b : Nat) : lenA Tryz.prog s 74 (LV ms b) = some (.int .i64 (Int.ofNat ms.length)) := by
  unfold LV
  split
  · rename_i h
    subst h
    simp only [lenA, uW]
    rfl
  · simp only [lenA, uW]
    rfl
theorem ix_LV {ms : MS} {i : Nat} (b : Nat) (h : i < ms.length) : indexAddrA Tryz.prog 74 (LV ms b) (.int .i64 (Int.ofNat i)) = some (.ptr b (i * 4)) := by
  have h0 : ms ≠ [] := by rintro rfl; simp at h
  simp only [LV, if_neg h0, indexAddrA, uW, sW]
  rw [if_pos ⟨by simp, by simp; omega⟩]
  simp
theorem junk_LV (ms : MS) (b : Nat) : junkA = junkOf (LV ms b) ∧ junkable (LV ms b) = true := by
  unfold LV
  split <;> exact ⟨rfl, rfl⟩
/-- The block of a row, or of none yet. -/
def RO (ms : MS) (o : AObj) : Prop := (ms = [] ∧ Free o) ∨ (ms ≠ [] ∧ o = .cells false (rowsOf wc ms))
theorem RO.row {ms : MS} {o : AObj} {i : Nat} (h : RO ms o) (hi : i < ms.length) : o = .cells false (rowsOf wc ms) := by
  rcases h with ⟨rfl, _⟩ | ⟨_, h⟩
  · simp at hi
  · exact h
theorem rows_names (p : Nat → Bool) (ms : MS) : namess p (rowsOf wc ms) = true := names_rows (fun _ => rfl) ms
theorem RO.free {ms : MS} {o : AObj} (h : RO ms o) : Free o := by
  rcases h with ⟨_, h⟩ | ⟨_, rfl⟩
  · exact h
  · exact ⟨rfl, rows_names _ ms⟩
theorem idx_at (a : A3) (ms : MS) (h : hasW ms a = true) : ms[idxW ms a]? = some (a, getW ms a) := by
  induction ms with
  | nil => cases h
  | cons x t ih =>
    simp only [hasW, idxW, getW] at h ⊢
    by_cases hx : a = x.1
    · simp [hx]
    · simp only [if_neg hx] at h ⊢
      simpa using ih h
theorem before (a : A3) (ms : MS) (i : Nat) (hi : i < idxW ms a) : ∃ x, ms[i]? = some x ∧ x.1 ≠ a := by
  induction ms generalizing i with
  | nil => simp [idxW] at hi
  | cons x t ih =>
    simp only [idxW] at hi
    by_cases hx : a = x.1
    · simp [hx] at hi
    · simp only [if_neg hx] at hi
      match i with
      | 0 => exact ⟨x, rfl, fun h => hx h.symm⟩
      | i + 1 => simpa using ih i (by omega)
theorem put_set (a : A3) (v : Nat) (ms : MS) (h : hasW ms a = true) : ms.set (idxW ms a) (a, v) = putW ms a v := by
  induction ms with
  | nil => cases h
  | cons x t ih =>
    simp only [hasW, idxW, putW] at h ⊢
    by_cases hx : a = x.1
    · simp [hx]
    · simp only [if_neg hx] at h ⊢
      simp [ih h]
theorem q_eqv (s : AS) (a b : A3) (v : Bool) (h : decide (a = b) = v) : (Qst.eqv s 44 (ak a) (ak b) true (.bool v)).ok Tryz.prog := by
  refine ⟨v, ?_, by simp⟩
  have g : guardA Tryz.prog 44 (.agg (ak a)) (.agg (ak b)) = true := by
    show (!Tryz.prog.eqGuardType Tryz.prog.depth 44) = true
    kernel_rfl
  simp only [eqlA, g, if_true, eqK, h]
theorem q_lss {i n : Nat} {v : Bool} (h : decide (i < n) = v) : some (AV.bool (decide (Int.ofNat i < Int.ofNat n))) = some (AV.bool v) := by
  subst h
  by_cases h : i < n
  · simp [h]
  · simp [h]
/-! ### Word, put: their loops -/
def X3 (x : AV) : Prop := x = undefA ∨ ∃ a : A3, x = .agg (ak a)
section
variable {a : A3} {ms : MS} {o5 : AObj} (hr : RO ms o5) (hl : ms.length < 16777216)
include hr hl
theorem wd_loop (r4 : List AV) : ∀ (d i : Nat) (z1 z2 : AV), idxW ms a - i = d → i ≤ idxW ms a → X3 z1 → X3 z2 → ∃ y1 y2 j, X3 y1 ∧ X3 y2 ∧ SoundL Tryz.prog [] (.loop (loopAt Tryz.prog 49 0)) (TWd a.1 a.2.1 a.2.2 i 0 z1 z2) (HWd a.1 a.2.1 a.2.2 (LV ms 5) r4 o5) 3 7 (if hasW ms a = true then .ret else .exit 0) (TWd a.1 a.2.1 a.2.2 j (getW ms a) y1 y2) (HWd a.1 a.2.1 a.2.2 (LV ms 5) r4 o5)
  | 0, i, z1, z2, hd, hi, hx, hy => by
    have hii : i = idxW ms a := by omega
    have hle := @idx_le a ms
    by_cases h : hasW ms a = true
    · simp only [h, if_true] at hle ⊢
      have hat := idx_at a ms h
      rw [← hii] at hle hat
      have e5 := hr.row hle
      refine ⟨.agg (ak a), .agg (ak a), i, .inr ⟨_, rfl⟩, .inr ⟨_, rfl⟩, SoundL.stop (SoundL.plain (runX_sound mixed none_sound (wd_yes a.1 a.2.1 a.2.2 a.1 a.2.1 a.2.2 i ms.length (getW ms a) 0 (LV ms 5) r4 o5 .dead z1 z2 z1 z1 z1 z1 z1) ⟨ln_LV _ ms 5, q_lss (by simp [hle]), ix_LV 5 hle, ld_key (ms := ms) (by rw [e5]; rfl) hat, q_eqv _ a a true (by simp), ix_LV 5 hle, ld_val (ms := ms) (by rw [e5]; rfl) hat, trivial⟩) ?_) (by simp)⟩
      unfold TWd
      repeat (first | exact rfl | refine ⟨_, _, rfl, ?_, ?_⟩ | exact .inr ⟨rfl, rfl⟩ | exact .inl ⟨rfl, rfl⟩ | exact .inl (junk_LV _ _) | exact see_same _)
    · have h : hasW ms a = false := by simpa using h
      simp only [h, Bool.false_eq_true, if_false] at hle ⊢
      rw [get_none h]
      refine ⟨z1, z2, i, hx, hy, SoundL.stop (SoundL.plain (runX_sound mixed none_sound (wd_end a.1 a.2.1 a.2.2 a.1 a.2.1 a.2.2 i ms.length 0 0 (LV ms 5) r4 o5 .dead z1 z2 z1 z1 z1 z1 z1) ⟨ln_LV _ ms 5, q_lss (by simp; omega), trivial⟩) ?_) (by simp)⟩
      unfold TWd
      repeat (first | exact rfl | refine ⟨_, _, rfl, ?_, ?_⟩ | exact .inr ⟨rfl, rfl⟩ | exact .inl ⟨rfl, rfl⟩ | exact .inl (junk_LV _ _) | exact see_same _)
  | d + 1, i, z1, z2, hd, hi, hx, hy => by
    have hle := @idx_le a ms
    have hil : i < ms.length := by split at hle <;> omega
    have e5 := hr.row hil
    obtain ⟨x, hat, hne⟩ := before a ms i (by omega)
    obtain ⟨y1, y2, j, k1, k2, ih⟩ := wd_loop r4 d (i + 1) (.agg (ak x.1)) (.agg (ak a)) (by omega) (by omega) (.inr ⟨_, rfl⟩) (.inr ⟨_, rfl⟩)
    refine ⟨y1, y2, j, k1, k2, SoundL.next (SoundL.plain (runX_sound mixed none_sound (wd_no a.1 a.2.1 a.2.2 x.1.1 x.1.2.1 x.1.2.2 i ms.length 0 0 (LV ms 5) r4 o5 .dead z1 z2 z1 z1 z1 z1 z1) ⟨ln_LV _ ms 5, q_lss (by simp [hil]), ix_LV 5 hil, ld_key (ms := ms) (by rw [e5]; rfl) hat, q_eqv _ x.1 a false (by simpa using hne), i64_of (by omega), trivial⟩) ?_) ih⟩
    unfold TWd
    repeat (first | exact rfl | refine ⟨_, _, rfl, ?_, ?_⟩ | exact .inr ⟨rfl, rfl⟩ | exact .inl ⟨rfl, rfl⟩ | exact .inl (junk_LV _ _) | exact see_same _)
theorem pt_loop0 (h : hasW ms a = false) (r4 : List AV) (v : Nat) : ∀ (d i : Nat) (z1 z2 : AV), ms.length - i = d → i ≤ ms.length → X3 z1 → X3 z2 → ∃ y1 y2 j, X3 y1 ∧ X3 y2 ∧ SoundL Tryz.prog [] (.loop (loopAt Tryz.prog 50 0)) (TPt a.1 a.2.1 a.2.2 v i z1 z2) (HWd a.1 a.2.1 a.2.2 (LV ms 5) r4 o5) 3 7 (.exit 0) (TPt a.1 a.2.1 a.2.2 v j y1 y2) (HWd a.1 a.2.1 a.2.2 (LV ms 5) r4 o5)
  | 0, i, z1, z2, hd, hi, hx, hy => by
    refine ⟨z1, z2, i, hx, hy, SoundL.stop (SoundL.plain (runX_sound mixed none_sound (pt_end a.1 a.2.1 a.2.2 a.1 a.2.1 a.2.2 i ms.length v 0 (LV ms 5) r4 o5 .dead z1 z2 z1 z1 z1 z1 z1) ⟨ln_LV _ ms 5, q_lss (by simp; omega), trivial⟩) ?_) (by simp)⟩
    unfold TPt
    repeat (first | exact rfl | refine ⟨_, _, rfl, ?_, ?_⟩ | exact .inr ⟨rfl, rfl⟩ | exact .inl ⟨rfl, rfl⟩ | exact .inl (junk_LV _ _) | exact see_same _)
  | d + 1, i, z1, z2, hd, hi, hx, hy => by
    have hle := @idx_le a ms
    simp only [h, Bool.false_eq_true, if_false] at hle
    have hil : i < ms.length := by omega
    have e5 := hr.row hil
    obtain ⟨x, hat, hne⟩ := before a ms i (by omega)
    obtain ⟨y1, y2, j, k1, k2, ih⟩ := pt_loop0 h r4 v d (i + 1) (.agg (ak x.1)) (.agg (ak a)) (by omega) (by omega) (.inr ⟨_, rfl⟩) (.inr ⟨_, rfl⟩)
    refine ⟨y1, y2, j, k1, k2, SoundL.next (SoundL.plain (runX_sound mixed none_sound (pt_no a.1 a.2.1 a.2.2 x.1.1 x.1.2.1 x.1.2.2 i ms.length v 0 (LV ms 5) r4 o5 .dead z1 z2 z1 z1 z1 z1 z1) ⟨ln_LV _ ms 5, q_lss (by simp [hil]), ix_LV 5 hil, ld_key (ms := ms) (by rw [e5]; rfl) hat, q_eqv _ x.1 a false (by simpa using hne), i64_of (by omega), trivial⟩) ?_) ih⟩
    unfold TPt
    repeat (first | exact rfl | refine ⟨_, _, rfl, ?_, ?_⟩ | exact .inr ⟨rfl, rfl⟩ | exact .inl ⟨rfl, rfl⟩ | exact .inl (junk_LV _ _) | exact see_same _)
end
theorem LV_names (ms : MS) (b : Nat) (p : Nat → Bool) (h : p b = true) : (LV ms b).names p = true := by
  unfold LV
  split
  · rfl
  · exact h
section
variable {a : A3} {ms : MS} (hl : ms.length < 16777216) (h : hasW ms a = true)
include hl h
theorem pt_loop1 (r4 : List AV) (h4 : namess (fun b => Nat.blt b 7) r4 = true) (v : Nat) : ∀ (d i : Nat) (z1 z2 : AV), idxW ms a - i = d → i ≤ idxW ms a → X3 z1 → X3 z2 → ∃ y1 y2 j, X3 y1 ∧ X3 y2 ∧ SoundL Tryz.prog [5] (.loop (loopAt Tryz.prog 50 0)) (TPt a.1 a.2.1 a.2.2 v i z1 z2) (HWd a.1 a.2.1 a.2.2 (LV ms 5) r4 (.cells false (rowsOf wc ms))) 3 7 .ret (TPt a.1 a.2.1 a.2.2 v j y1 y2) (HWd a.1 a.2.1 a.2.2 (LV ms 5) r4 (.cells false (rowsOf wc (putW ms a v))))
  | 0, i, z1, z2, hd, hi, hx, hy => by
    have hii : i = idxW ms a := by omega
    have hle := @idx_le a ms
    simp only [h, if_true] at hle
    have hat := idx_at a ms h
    rw [← hii] at hle hat
    have hst : ∀ s : AS, s.get 5 = some (.cells false (rowsOf wc ms)) → storeA Tryz.prog s 45 (.ptr 5 (i * 4 + 3)) (.int .u64 (Int.ofNat v)) = some (s.set 5 (.cells false (rowsOf wc (putW ms a v)))) := fun s hs => by
      have := st_val (v := v) hs hat
      rwa [hii, put_set a v ms h, ← hii] at this
    refine ⟨.agg (ak a), .agg (ak a), i, .inr ⟨_, rfl⟩, .inr ⟨_, rfl⟩, SoundL.stop (SoundL.intro (runX_sound mixed none_sound (pt_yes a.1 a.2.1 a.2.2 a.1 a.2.1 a.2.2 i ms.length v 0 (LV ms 5) r4 (.cells false (rowsOf wc ms)) (.cells false (rowsOf wc (putW ms a v))) z1 z2 z1 z1 z1 z1 z1) ⟨ln_LV _ ms 5, q_lss (by simp [hle]), ix_LV 5 hle, ld_key (ms := ms) rfl hat, q_eqv _ a a true (by simp), ix_LV 5 hle, ⟨hst _ rfl, rfl⟩, trivial⟩) ?_ ?_ ?_) (by simp)⟩
    · unfold TPt
      repeat (first | exact rfl | refine ⟨_, _, rfl, ?_, ?_⟩ | exact .inr ⟨rfl, rfl⟩ | exact .inl ⟨rfl, rfl⟩ | exact .inl (junk_LV _ _))
    · exact ⟨_, _, rfl, rfl, .inr rfl, _, _, rfl, rfl, .inr rfl, _, _, rfl, rfl, .inl rfl, rfl⟩
    · exact ⟨⟨rfl, rfl⟩, ⟨by show ((LV ms 5).names _ && namess _ r4) = true; rw [LV_names ms 5 _ rfl, h4]; rfl, rfl⟩, ⟨rows_names _ _, rfl⟩, trivial⟩
  | d + 1, i, z1, z2, hd, hi, hx, hy => by
    have hle := @idx_le a ms
    simp only [h, if_true] at hle
    have hil : i < ms.length := by omega
    obtain ⟨x, hat, hne⟩ := before a ms i (by omega)
    obtain ⟨y1, y2, j, k1, k2, ih⟩ := pt_loop1 r4 h4 v d (i + 1) (.agg (ak x.1)) (.agg (ak a)) (by omega) (by omega) (.inr ⟨_, rfl⟩) (.inr ⟨_, rfl⟩)
    refine ⟨y1, y2, j, k1, k2, SoundL.next (SoundL.intro (runX_sound mixed none_sound (pt_no a.1 a.2.1 a.2.2 x.1.1 x.1.2.1 x.1.2.2 i ms.length v 0 (LV ms 5) r4 (.cells false (rowsOf wc ms)) .dead z1 z2 z1 z1 z1 z1 z1) ⟨ln_LV _ ms 5, q_lss (by simp [hil]), ix_LV 5 hil, ld_key (ms := ms) rfl hat, q_eqv _ x.1 a false (by simpa using hne), i64_of (by omega), trivial⟩) ?_ ?_ ?_) ih⟩
    · unfold TPt
      repeat (first | exact rfl | refine ⟨_, _, rfl, ?_, ?_⟩ | exact .inr ⟨rfl, rfl⟩ | exact .inl ⟨rfl, rfl⟩ | exact .inl (junk_LV _ _))
    · exact ⟨_, _, rfl, rfl, .inr rfl, _, _, rfl, rfl, .inr rfl, _, _, rfl, rfl, .inr rfl, rfl⟩
    · exact ⟨⟨rfl, rfl⟩, ⟨by show ((LV ms 5).names _ && namess _ r4) = true; rw [LV_names ms 5 _ rfl, h4]; rfl, rfl⟩, ⟨rows_names _ _, rfl⟩, trivial⟩
end
theorem LV_ren (ms : MS) (b : Nat) (π : Nat → Nat) : (LV ms b).ren π = LV ms (π b) := by
  unfold LV
  split <;> rfl
theorem LA_ren (π : Nat → Nat) (m : PM) (h : AV) : rens π (m.C h) = m.C (h.ren π) := rfl
theorem C_names (p : Nat → Bool) (m : PM) (h : AV) (hh : h.names p = true) : namess p (m.C h) = true := by
  show (h.names p && true) = true
  rw [hh]
  rfl
theorem rmayq (a : A3) (h0 : 0 ≤ a.1) (v : Bool) (h : mayA a = v) : (Qst.pure [] 79 [.agg (ak a)] (.bool v)).ok Tryz.prog := fun s _ => h ▸ rmay_at a h0 s
theorem sl_at {L0 : List Nat} {c : Code} {ts ts' : List AV} {bs bs' : List (Nat × AObj)} {len nx : Nat} {e : AExit} (h : SoundL Tryz.prog L0 c ts bs len nx e ts' bs') (ts0 : List AV) (esc : Option Nat) (W : List Nat) (hts : seesT (fun b => b) (fun _ => true) ts ts0) :
    Sound Tryz.prog (.code c ts0 ⟨⟨bs, len, esc, W⟩, nx⟩) ⟨e, ts', ⟨⟨bs', len, esc, L0 ++ W⟩, nx⟩⟩ := Sound.enter (h esc esc W) hts
section
variable {s : AS} {b bL : Nat} {m : PM} {o : AObj} (hb : s.get b = some (.cells false (m.C (LV m.ms bL)))) (ho : s.get bL = some o) (hr : RO m.ms o) (hne : b ≠ bL) (hl : m.ms.length < 16777000)
include hb ho hr hne hl
theorem word_at (a : A3) : Sound Tryz.prog (.call 49 [.ptr b 0, .agg (ak a)] s) ⟨.ret, [.int .u64 (Int.ofNat (getW m.ms a))], s⟩ := by
  have hx : Sound Tryz.prog (.call 49 [.ptr 4 0, .agg (ak a)] ⟨⟨[(4, .cells false (m.C (LV m.ms 5))), (5, o)], 2, none, []⟩, 6⟩) ⟨.ret, [.int .u64 (Int.ofNat (getW m.ms a))], ⟨⟨[(4, .cells false (m.C (LV m.ms 5))), (5, o)], 2, none, []⟩, 7⟩⟩ := by
    obtain ⟨y1, y2, j, _, _, lp⟩ := wd_loop (a := a) hr (by omega) (.int .i64 m.st :: LA m.kd m.a m.was m.is m.dn) (idxW m.ms a) 0 undefA undefA (by omega) (by omega) (.inl rfl) (.inl rfl)
    by_cases h : hasW m.ms a = true
    · rw [if_pos h] at lp
      refine runX_sound mixed none_sound (wd_run1 a.1 a.2.1 a.2.2 m.st j 0 0 (getW m.ms a) (.int .u8 m.kd) (.int .u8 m.a.1) (.int .i64 m.a.2.1) (.int .i64 m.a.2.2) (.int .u64 (Int.ofNat m.was)) (.int .u64 (Int.ofNat m.is)) (.bool m.dn) (LV m.ms 5) o .dead y1 y2) ⟨sl_at lp _ none [] ?_, trivial⟩
      unfold TWd
      repeat (first | exact rfl | refine ⟨_, _, rfl, ?_, ?_⟩ | exact .inr ⟨rfl, rfl⟩ | exact .inl ⟨rfl, rfl⟩)
    · rw [if_neg h] at lp
      rw [get_none (by simpa using h)] at lp ⊢
      refine runX_sound mixed none_sound (wd_run0 a.1 a.2.1 a.2.2 m.st j 0 0 0 (.int .u8 m.kd) (.int .u8 m.a.1) (.int .i64 m.a.2.1) (.int .i64 m.a.2.2) (.int .u64 (Int.ofNat m.was)) (.int .u64 (Int.ofNat m.is)) (.bool m.dn) (LV m.ms 5) o .dead y1 y2) ⟨sl_at lp _ none [] ?_, trivial⟩
      unfold TWd
      repeat (first | exact rfl | refine ⟨_, _, rfl, ?_, ?_⟩ | exact .inr ⟨rfl, rfl⟩ | exact .inl ⟨rfl, rfl⟩)
  have h := put2 (b := b) (bm := bL) (s := s) hx rfl rfl (C_names _ _ _ (LV_names _ _ _ rfl)) (hr.free.nm _) hr.free.1 (C_names _ _ _ (LV_names _ _ _ rfl)) (hr.free.nm _) (.inl hr.free.1) rfl rfl hne (by rw [LA_ren, LV_ren]; exact hb) (by rw [hr.free.ren]; exact ho)
  rw [LA_ren, LV_ren, hr.free.ren] at h
  exact rec_same2 h hb ho
end
/-- A row behind a store: where it lay, or in a new block. -/
def Row2 (ms : MS) (bL nx : Nat) (lv : AV) (o o2 : AObj) : Prop := (lv = LV ms bL ∧ RO ms o ∧ Free o2) ∨ (ms ≠ [] ∧ lv = LV ms nx ∧ (o = .dead ∨ Free o) ∧ RO ms o2)
theorem Row2.names {ms : MS} {bL nx : Nat} {lv : AV} {o o2 : AObj} (h : Row2 ms bL nx lv o o2) (p : Nat → Bool) (hp : p bL = true) (hq : p nx = true) : lv.names p = true := by
  rcases h with ⟨rfl, _⟩ | ⟨_, rfl, _⟩
  · exact LV_names _ _ _ hp
  · exact LV_names _ _ _ hq
theorem Row2.o1 {ms : MS} {bL nx : Nat} {lv : AV} {o o2 : AObj} (h : Row2 ms bL nx lv o o2) : (o.rw = true ∨ o = .dead) ∧ ∀ p, o.names p = true := by
  rcases h with ⟨_, h, _⟩ | ⟨_, _, rfl | h, _⟩
  · exact ⟨.inl h.free.1, h.free.nm⟩
  · exact ⟨.inr rfl, fun _ => rfl⟩
  · exact ⟨.inl h.1, h.nm⟩
theorem Row2.o2 {ms : MS} {bL nx : Nat} {lv : AV} {o o2 : AObj} (h : Row2 ms bL nx lv o o2) : Free o2 := by
  rcases h with ⟨_, _, h⟩ | ⟨_, _, _, h⟩
  · exact h
  · exact h.free
theorem no_ren {o : AObj} (h : ∀ p, o.names p = true) (π : Nat → Nat) : o.ren π = o := by rw [oren_congr (p := fun _ => false) (π' := fun b => b) (fun _ h => by cases h) (h _), oren_id]
theorem Row2.ren {ms : MS} {bL nx : Nat} {lv : AV} {o o2 : AObj} (h : Row2 ms bL nx lv o o2) (π : Nat → Nat) : Row2 ms (π bL) (π nx) (lv.ren π) o o2 := by
  rcases h with ⟨rfl, h1, h2⟩ | ⟨h0, rfl, h1, h2⟩
  · exact .inl ⟨LV_ren _ _ _, h1, h2⟩
  · exact .inr ⟨h0, LV_ren _ _ _, h1, h2⟩
section
variable {s : AS} {b bL : Nat} {m : PM} {o : AObj} (hb : s.get b = some (.cells false (m.C (LV m.ms bL)))) (ho : s.get bL = some o) (hr : RO m.ms o) (hne : b ≠ bL) (hl : m.ms.length < 16777000)
include hb ho hr hne hl
def msP (m : PM) (a : A3) (v : Nat) : MS := if mayA a = true then putW m.ms a v else m.ms
theorem putR_at (a : A3) (h0 : 0 ≤ a.1) (v : Nat) : ∃ lv o' o2, Row2 (msP m a v) bL s.nx lv o' o2 ∧ Sound Tryz.prog (.call 50 [.ptr b 0, .agg (ak a), .int .u64 (Int.ofNat v)] s) ⟨.ret, [undefA], ((s.set b (.cells false (m.C lv))).set bL o').push o2⟩ := by
  have hgh : ∀ o', Sound Tryz.prog (.call 50 [.ptr b 0, .agg (ak a), .int .u64 (Int.ofNat v)] s) ⟨.ret, [undefA], (s.set b (.cells false (m.C (LV m.ms bL)))).set bL o'⟩ → Sound Tryz.prog (.call 50 [.ptr b 0, .agg (ak a), .int .u64 (Int.ofNat v)] s) ⟨.ret, [undefA], ((s.set b (.cells false (m.C (LV m.ms bL)))).set bL o').push (.cells false [])⟩ := fun o' h => Sound.ghost _ h
  have hfe : Free (.cells false []) := ⟨rfl, rfl⟩
  unfold msP
  by_cases hm : mayA a = true
  · rw [if_pos hm]
    by_cases h : hasW m.ms a = true
    · have hn : m.ms ≠ [] := by intro e; rw [e] at h; cases h
      have e5 : o = .cells false (rowsOf wc m.ms) := by
        rcases hr with ⟨h1, _⟩ | ⟨_, h1⟩
        · exact absurd h1 hn
        · exact h1
      subst e5
      have hn2 : putW m.ms a v ≠ [] := by
        intro e
        have := put_len (a := a) (v := v) (ms := m.ms)
        rw [e, h] at this
        simp at this
        exact hn (List.length_eq_zero_iff.1 this.symm)
      have e1 : LV (putW m.ms a v) bL = LV m.ms bL := by
        unfold LV
        rw [if_neg hn, if_neg hn2, put_len, if_pos h]
      refine ⟨LV m.ms bL, .cells false (rowsOf wc (putW m.ms a v)), .cells false [], .inl ⟨e1.symm, .inr ⟨hn2, rfl⟩, hfe⟩, hgh _ ?_⟩
      obtain ⟨y1, y2, j, _, _, lp⟩ := pt_loop1 (a := a) (ms := m.ms) (by omega) h (.int .i64 m.st :: LA m.kd m.a m.was m.is m.dn) rfl v (idxW m.ms a) 0 undefA undefA (by omega) (by omega) (.inl rfl) (.inl rfl)
      have hx := runX_sound mixed none_sound (pt_run_y a.1 a.2.1 a.2.2 m.st j 0 v 0 (.int .u8 m.kd) (.int .u8 m.a.1) (.int .i64 m.a.2.1) (.int .i64 m.a.2.2) (.int .u64 (Int.ofNat m.was)) (.int .u64 (Int.ofNat m.is)) (.bool m.dn) (LV m.ms 5) (.cells false (rowsOf wc m.ms)) (.cells false (rowsOf wc (putW m.ms a v))) y1 y2) ⟨rmayq a h0 true hm, sl_at lp _ none [] (by
        unfold TPt
        repeat (first | exact rfl | refine ⟨_, _, rfl, ?_, ?_⟩ | exact .inr ⟨rfl, rfl⟩ | exact .inl ⟨rfl, rfl⟩)), trivial⟩
      have h := put2 (c := m.C (LV m.ms 5)) (c' := m.C (LV m.ms 5)) (b := b) (bm := bL) (s := s) hx rfl rfl (C_names _ _ _ (LV_names _ _ _ rfl)) (rows_names _ _) rfl (C_names _ _ _ (LV_names _ _ _ rfl)) (rows_names _ _) (.inl rfl) rfl rfl hne (by rw [LA_ren, LV_ren]; exact hb) (by rw [hr.free.ren]; exact ho)
      rw [LA_ren, LV_ren, no_ren (o := .cells false (rowsOf wc (putW m.ms a v))) (fun p => rows_names p _)] at h
      exact h
    · have hf : hasW m.ms a = false := by simpa using h
      have hle := @idx_le a m.ms
      have hn2 : putW m.ms a v ≠ [] := by rw [put_new hf]; simp
      have hlen : (putW m.ms a v).length = m.ms.length + 1 := by rw [put_new hf]; simp
      have e8 : (.osl 8 0 (m.ms.length + 1) 4 : AV) = LV (putW m.ms a v) 8 := by unfold LV; rw [if_neg hn2, hlen]
      have ew : rowsOf wc (putW m.ms a v) = rowsOf wc m.ms ++ wc (a, v) := by rw [put_new hf]; simp [rowsOf]
      obtain ⟨y1, y2, j, _, _, lp⟩ := pt_loop0 (a := a) hr (by omega) hf (.int .i64 m.st :: LA m.kd m.a m.was m.is m.dn) v m.ms.length 0 undefA undefA (by omega) (by omega) (.inl rfl) (.inl rfl)
      have fin : ∀ {o' : AObj} {s1 : AS} {e : AExit}, Sound Tryz.prog (.call 50 [.ptr 4 0, .agg (ak a), .int .u64 (Int.ofNat v)] ⟨⟨[(4, .cells false (m.C (LV m.ms 5))), (5, o)], 2, none, []⟩, 6⟩) ⟨e, [undefA], s1⟩ → s1.get 4 = some (.cells false (m.C (LV (putW m.ms a v) 8))) → s1.get 5 = some o' → (o' = .dead ∨ Free o') → s1.get 8 = some (.cells false (rowsOf wc (putW m.ms a v))) →
          ∃ lv o' o2, Row2 (putW m.ms a v) bL s.nx lv o' o2 ∧ Sound Tryz.prog (.call 50 [.ptr b 0, .agg (ak a), .int .u64 (Int.ofNat v)] s) ⟨.ret, [undefA], ((s.set b (.cells false (m.C lv))).set bL o').push o2⟩ := fun {o' s1 e} hx k4 k5 ko k8 => by
        have hrw : o'.rw = true ∨ o' = .dead := ko.elim .inr (fun h => .inl h.1)
        have hon : ∀ p, o'.names p = true := fun p => by
          rcases ko with rfl | h
          · rfl
          · exact h.nm p
        have h := putN (b := b) (bm := bL) (s := s) hx [(8, .cells false (rowsOf wc (putW m.ms a v)))] k4 k5 (C_names _ _ _ (LV_names _ _ _ rfl)) (hr.free.nm _) hr.free.1 (C_names _ _ _ (LV_names _ _ _ rfl)) (hon _) hrw ⟨⟨show 6 ≤ 8 by decide, k8, rfl, rows_names _ _⟩, trivial⟩ (show [8].Nodup by decide) rfl rfl hne (by rw [LA_ren, LV_ren]; exact hb) (by rw [hr.free.ren]; exact ho)
        rw [LA_ren, LV_ren, no_ren hon] at h
        refine ⟨LV (putW m.ms a v) s.nx, o', .cells false (rowsOf wc (putW m.ms a v)), .inr ⟨hn2, rfl, ko, .inr ⟨hn2, rfl⟩⟩, ?_⟩
        have e : (AObj.cells false (rowsOf wc (putW m.ms a v))).ren (pR 6 [8] (p45 b bL) s.nx) = .cells false (rowsOf wc (putW m.ms a v)) := no_ren (o := .cells false (rowsOf wc (putW m.ms a v))) (fun p => rows_names p _) _
        simp only [List.map_cons, List.map_nil, e] at h
        exact h
      rcases hr with ⟨h1, h2⟩ | ⟨h1, h2⟩
      · have e0 : LV m.ms 5 = .nilSlice := if_pos h1
        have ea : ∀ (s : AS) (c2 : Nat), s.get 7 = some (.cells false (wc (a, v))) → s.nx = 8 → appendA Tryz.prog s 74 74 (LV m.ms 5) (.slice 7 0 1 c2) = some (.osl 8 0 (m.ms.length + 1) 4, s.push (.cells false (rowsOf wc (putW m.ms a v)))) := fun s c2 hs hx => by
          rw [e0, app_nil rW hs rfl rfl, hx, ew, h1]
          rfl
        have hx := runX_sound mixed none_sound (pt_run_b a.1 a.2.1 a.2.2 m.st j (m.ms.length + 1) v 0 (.int .u8 m.kd) (.int .u8 m.a.1) (.int .i64 m.a.2.1) (.int .i64 m.a.2.2) (.int .u64 (Int.ofNat m.was)) (.int .u64 (Int.ofNat m.is)) (.bool m.dn) (LV m.ms 5) o .dead (rowsOf wc (putW m.ms a v)) y1 y2) ⟨rmayq a h0 true hm, sl_at lp _ none [] (by
          unfold TPt
          repeat (first | exact rfl | refine ⟨_, _, rfl, ?_, ?_⟩ | exact .inr ⟨rfl, rfl⟩ | exact .inl ⟨rfl, rfl⟩)), ea _ _ rfl rfl, trivial⟩
        exact fin hx (by rw [← e8]; rfl) rfl (.inr h2) rfl
      · subst h2
        have e0 : LV m.ms 5 = .osl 5 0 m.ms.length 4 := if_neg h1
        have hrl : (rowsOf wc m.ms).length = m.ms.length * 4 := by
          have : ∀ l : MS, (rowsOf wc l).length = l.length * 4 := by
            intro l
            induction l with
            | nil => rfl
            | cons x t ih =>
              show (wc x ++ rowsOf wc t).length = _
              rw [List.length_append, ih]
              show 4 + _ = (t.length + 1) * 4
              omega
          exact this _
        have hro : (rowsOf wc m.ms).all AV.one = true := by
          have : ∀ l : MS, (rowsOf wc l).all AV.one = true := by
            intro l
            induction l with
            | nil => rfl
            | cons x t ih =>
              show (wc x ++ rowsOf wc t).all AV.one = true
              rw [List.all_append, ih]
              rfl
          exact this _
        have ea : ∀ (s : AS) (c2 : Nat), s.get 7 = some (.cells false (wc (a, v))) → s.get 5 = some (.cells false (rowsOf wc m.ms)) → s.nx = 8 → appendA Tryz.prog s 74 74 (LV m.ms 5) (.slice 7 0 1 c2) = some (.osl 8 0 (m.ms.length + 1) 4, (s.set 5 .dead).push (.cells false (rowsOf wc (putW m.ms a v)))) := fun s c2 hs h5 hx => by
          rw [e0, app_osl rW h5 hrl hro hs rfl rfl (by omega), hx, ew]
        have hx := runX_sound mixed none_sound (pt_run_a a.1 a.2.1 a.2.2 m.st j (m.ms.length + 1) v 0 (.int .u8 m.kd) (.int .u8 m.a.1) (.int .i64 m.a.2.1) (.int .i64 m.a.2.2) (.int .u64 (Int.ofNat m.was)) (.int .u64 (Int.ofNat m.is)) (.bool m.dn) (LV m.ms 5) (.cells false (rowsOf wc m.ms)) .dead (rowsOf wc (putW m.ms a v)) y1 y2) ⟨rmayq a h0 true hm, sl_at lp _ none [] (by
          unfold TPt
          repeat (first | exact rfl | refine ⟨_, _, rfl, ?_, ?_⟩ | exact .inr ⟨rfl, rfl⟩ | exact .inl ⟨rfl, rfl⟩)), ea _ _ rfl rfl rfl, trivial⟩
        exact fin hx (by rw [← e8]; rfl) rfl (.inl rfl) rfl
  · rw [if_neg hm]
    refine ⟨LV m.ms bL, o, .cells false [], .inl ⟨rfl, hr, hfe⟩, hgh _ ?_⟩
    have hx := runX_sound mixed none_sound (pt_run_m a.1 a.2.1 a.2.2 m.st 0 0 v 0 (.int .u8 m.kd) (.int .u8 m.a.1) (.int .i64 m.a.2.1) (.int .i64 m.a.2.2) (.int .u64 (Int.ofNat m.was)) (.int .u64 (Int.ofNat m.is)) (.bool m.dn) (LV m.ms 5) o .dead undefA undefA) ⟨rmayq a h0 false (by simpa using hm), trivial⟩
    have h := put2 (c := m.C (LV m.ms 5)) (c' := m.C (LV m.ms 5)) (b := b) (bm := bL) (s := s) hx rfl rfl (C_names _ _ _ (LV_names _ _ _ rfl)) (hr.free.nm _) hr.free.1 (C_names _ _ _ (LV_names _ _ _ rfl)) (hr.free.nm _) (.inl hr.free.1) rfl rfl hne (by rw [LA_ren, LV_ren]; exact hb) (by rw [hr.free.ren]; exact ho)
    rw [LA_ren, LV_ren, hr.free.ren] at h
    exact h
end
theorem escAny {P : Program} {f : FuncId} {args vs : List AV} {s s1 : AS} {e : AExit} (h : Sound P (.call f args s) ⟨e, vs, s1⟩) (esc : Option Nat) : Sound P (.call f args s) ⟨e, vs, ⟨⟨s1.h.bs, s1.h.len, esc, s1.h.wr⟩, s1.nx⟩⟩ := by
  intro B ρ cargs w R hc
  refine Calls.mono (h B ρ cargs w R hc) fun en w1 hr => ?_
  obtain ⟨v', u, ρ1, e1, e2, e3, hp⟩ := hr
  exact ⟨v', u, ρ1, e1, e2, e3, ⟨hp.rel.congr (fun _ => rfl) rfl rfl, hp.ext, fun b hb hn => hp.unt b hb hn, ⟨hp.shape.nx, hp.shape.keys, hp.shape.log⟩, hp.size⟩⟩
section
variable {s : AS} {b bL : Nat} {m : PM} {o : AObj} (hb : s.get b = some (.cells false (m.C (LV m.ms bL)))) (ho : s.get bL = some o) (hr : RO m.ms o) (hne : b ≠ bL) (hl : m.ms.length < 16777000)
include hb ho hr hne hl
theorem rload_at (a : A3) : Sound Tryz.prog (.call 32 [.ptr b 0, .agg (ak a)] s) ⟨.ret, [.int .u64 (Int.ofNat (getW m.ms a))], s.set b (.cells false ((m.load a).C (LV m.ms bL)))⟩ := by
  have hx := runX_sound mixed none_sound (rload a.1 a.2.1 a.2.2 m.st (getW m.ms a) 0 0 (.int .u8 m.kd) (.int .u8 m.a.1) (.int .i64 m.a.2.1) (.int .i64 m.a.2.2) (.int .u64 (Int.ofNat m.was)) (.int .u64 (Int.ofNat m.is)) (.bool m.dn) (LV m.ms 5) .nilMap o .dead .dead 0) ⟨word_at (m := m) (b := 4) (bL := 5) rfl rfl hr (by decide) hl a, trivial⟩
  have h := put2 (c := m.C (LV m.ms 5)) (c' := (m.load a).C (LV m.ms 5)) (b := b) (bm := bL) (s := s) hx rfl rfl (C_names _ _ _ (LV_names _ _ _ rfl)) (hr.free.nm _) hr.free.1 (C_names _ _ _ (LV_names _ _ _ rfl)) (hr.free.nm _) (.inl hr.free.1) rfl rfl hne (by rw [LA_ren, LV_ren]; exact hb) (by rw [hr.free.ren]; exact ho)
  rw [LA_ren, LV_ren, hr.free.ren] at h
  exact rec_first2 h ho hne
omit hl in
/-- What the small heap says of a store, wherever it lies. -/
theorem row_place {f : FuncId} {args : List AV} {r lv : AV} {o' o2 : AObj} {m' : PM} {s1 : AS} {e : AExit} (hx : Sound Tryz.prog (.call f args ⟨⟨[(4, .cells false (m.C (LV m.ms 5))), (5, o)], 2, none, []⟩, 6⟩) ⟨e, [r], s1⟩) (h2 : Row2 m'.ms 5 7 lv o' o2)
    (k4 : s1.get 4 = some (.cells false (m'.C lv))) (k5 : s1.get 5 = some o') (k7 : s1.get 7 = some o2) (hrn : r.names (fun _ => false) = true) (ha : namess (fun b => Nat.blt b 6) args = true) :
    ∃ lv o' o2, Row2 m'.ms bL s.nx lv o' o2 ∧ Sound Tryz.prog (.call f (rens (p45 b bL) args) s) ⟨.ret, [r], ((s.set b (.cells false (m'.C lv))).set bL o').push o2⟩ := by
  have h := putN (b := b) (bm := bL) (s := s) hx [(7, o2)] k4 k5 (C_names _ _ _ (LV_names _ _ _ rfl)) (hr.free.nm _) hr.free.1 (C_names _ _ _ (h2.names _ rfl rfl)) (h2.o1.2 _) h2.o1.1 ⟨⟨show 6 ≤ 7 by decide, k7, h2.o2.1, h2.o2.nm _⟩, trivial⟩ (show [7].Nodup by decide) hrn ha hne (by rw [LA_ren, LV_ren]; exact hb) (by rw [hr.free.ren]; exact ho)
  have k := h2.ren (pR 6 [7] (p45 b bL) s.nx)
  refine ⟨lv.ren (pR 6 [7] (p45 b bL) s.nx), o', o2, k, ?_⟩
  simp only [List.map_cons, List.map_nil, LA_ren, no_ren h2.o1.2, h2.o2.ren] at h
  exact h
omit hl in
theorem row_same {f : FuncId} {args : List AV} {r : AV} {m' : PM} {s1 : AS} {e : AExit} (hms : m'.ms = m.ms) (hx : Sound Tryz.prog (.call f args ⟨⟨[(4, .cells false (m.C (LV m.ms 5))), (5, o)], 2, none, []⟩, 6⟩) ⟨e, [r], s1⟩)
    (k4 : s1.get 4 = some (.cells false (m'.C (LV m.ms 5)))) (k5 : s1.get 5 = some o) (hrn : r.names (fun _ => false) = true) (ha : namess (fun b => Nat.blt b 6) args = true) :
    ∃ lv o' o2, Row2 m'.ms bL s.nx lv o' o2 ∧ Sound Tryz.prog (.call f (rens (p45 b bL) args) s) ⟨.ret, [r], ((s.set b (.cells false (m'.C lv))).set bL o').push o2⟩ := by
  have h := put2 (b := b) (bm := bL) (s := s) hx k4 k5 (C_names _ _ _ (LV_names _ _ _ rfl)) (hr.free.nm _) hr.free.1 (C_names _ _ _ (LV_names _ _ _ rfl)) (hr.free.nm _) (.inl hr.free.1) hrn ha hne (by rw [LA_ren, LV_ren]; exact hb) (by rw [hr.free.ren]; exact ho)
  rw [LA_ren, LV_ren, hr.free.ren] at h
  exact ⟨_, _, .cells false [], .inl ⟨by rw [hms]; rfl, by rw [hms]; exact hr, rfl, rfl⟩, Sound.ghost _ h⟩
omit hb ho hr hne hl in
theorem word_row2 {s' : AS} {m' : PM} {lv : AV} {o' o2 : AObj} (h2 : Row2 m'.ms 5 7 lv o' o2) (hl' : m'.ms.length < 16777000) (k4 : s'.get 4 = some (.cells false (m'.C lv))) (k5 : s'.get 5 = some o') (k7 : s'.get 7 = some o2) (a : A3) : Sound Tryz.prog (.call 49 [.ptr 4 0, .agg (ak a)] s') ⟨.ret, [.int .u64 (Int.ofNat (getW m'.ms a))], s'⟩ := by
  rcases h2 with ⟨rfl, h1, _⟩ | ⟨_, rfl, _, h1⟩
  · exact word_at k4 k5 h1 (by decide) hl' a
  · exact word_at k4 k7 h1 (by decide) hl' a
end
section
variable {s : AS} {b bL : Nat} {m : PM} {o : AObj} (hb : s.get b = some (.cells false (m.C (LV m.ms bL)))) (ho : s.get bL = some o) (hr : RO m.ms o) (hne : b ≠ bL) (hl : m.ms.length < 16776000)
include hb ho hr hne hl
omit hb ho hr hne in
theorem put_small (a : A3) (u : Nat) : (putW m.ms a u).length < 16777000 := by
  rw [put_len]
  split <;> omega
theorem rstore_at (a : A3) (h0 : 0 ≤ a.1) (u : Nat) : ∃ lv o' o2, Row2 (m.store a u).ms bL s.nx lv o' o2 ∧ Sound Tryz.prog (.call 30 [.ptr b 0, .agg (ak a), .int .u64 (Int.ofNat u)] s) ⟨.ret, [undefA], ((s.set b (.cells false ((m.store a u).C lv))).set bL o').push o2⟩ := by
  have hl2 : m.ms.length < 16777000 := by omega
  obtain ⟨lv, o', o2, h2, hp⟩ := putR_at (m := m) (b := 4) (bL := 5) (s := ⟨⟨[(6, .cells false [.int .u8 a.1, .int .i64 a.2.1, .int .i64 a.2.2]), (4, .cells false (m.C (LV m.ms 5))), (5, o)], 3, none, []⟩, 7⟩) rfl rfl hr (by decide) hl2 a h0 u
  have hms : (m.store a u).ms = msP m a u := by
    unfold PM.store msP
    split <;> rfl
  have hm' : (msP m a u).length < 16777000 := by
    unfold msP
    split
    · exact put_small hl a u
    · exact hl2
  have his : (m.store a u).is = getW (msP m a u) a := by
    unfold PM.store msP
    split
    · exact put_get.symm
    · rfl
  have hC : ∀ h, (m.store a u).C h = h :: .int .i64 (inc m.st) :: LA 2 a (getW m.ms a) (getW (msP m a u) a) false := by
    intro h
    rw [← his]
    unfold PM.store
    split <;> rfl
  refine row_place (m := m) (m' := m.store a u) hb ho hr hne (args := [.ptr 4 0, .agg (ak a), .int .u64 (Int.ofNat u)]) (runX_sound mixed none_sound (rstore a.1 a.2.1 a.2.2 m.st (getW m.ms a) u (getW (msP m a u) a) (.int .u8 m.kd) (.int .u8 m.a.1) (.int .i64 m.a.2.1) (.int .i64 m.a.2.2) (.int .u64 (Int.ofNat m.was)) (.int .u64 (Int.ofNat m.is)) (.bool m.dn) (LV m.ms 5) lv o o' o2 0) ⟨word_at (m := m) (b := 4) (bL := 5) rfl rfl hr (by decide) hl2 a, escAny hp _, ?_, trivial⟩) (by rw [hms]; exact h2) (by rw [hC]; rfl) rfl rfl rfl rfl
  exact word_row2 (m' := ⟨msP m a u, inc m.st, m.kd, m.a, m.was, m.is, m.dn⟩) h2 hm' rfl rfl rfl a
theorem rcas_at (a : A3) (h0 : 0 ≤ a.1) (w u : Nat) : ∃ lv o' o2, Row2 (m.cas a w u).ms bL s.nx lv o' o2 ∧ Sound Tryz.prog (.call 52 [.ptr b 0, .agg (ak a), .int .u64 (Int.ofNat w), .int .u64 (Int.ofNat u)] s) ⟨.ret, [.bool (m.casd a w)], ((s.set b (.cells false ((m.cas a w u).C lv))).set bL o').push o2⟩ := by
  have hl2 : m.ms.length < 16777000 := by omega
  have wq : ∀ s' : AS, s'.get 4 = some (.cells false (m.C (LV m.ms 5))) → s'.get 5 = some o → Sound Tryz.prog (.call 49 [.ptr 4 0, .agg (ak a)] s') ⟨.ret, [.int .u64 (Int.ofNat (getW m.ms a))], s'⟩ := fun s' k4 k5 => word_at k4 k5 hr (by decide) hl2 a
  by_cases hd : m.casd a w = true
  · have hd' := hd
    unfold PM.casd at hd'
    simp only [Bool.and_eq_true, decide_eq_true_eq] at hd'
    obtain ⟨hw, hy⟩ := hd'
    obtain ⟨lv, o', o2, h2, hp⟩ := putR_at (m := m) (b := 4) (bL := 5) (s := ⟨⟨[(6, .cells false [.int .u8 a.1, .int .i64 a.2.1, .int .i64 a.2.2]), (4, .cells false (m.C (LV m.ms 5))), (5, o)], 3, none, []⟩, 7⟩) rfl rfl hr (by decide) hl2 a h0 u
    have e : msP m a u = putW m.ms a u := if_pos hy
    rw [e] at h2
    have ec : m.cas a w u = ⟨putW m.ms a u, inc m.st, 3, a, getW m.ms a, u, true⟩ := by unfold PM.cas; rw [if_pos hd]
    rw [ec, hd]
    refine row_place (m := m) (m' := ⟨putW m.ms a u, inc m.st, 3, a, getW m.ms a, u, true⟩) hb ho hr hne (args := [.ptr 4 0, .agg (ak a), .int .u64 (Int.ofNat w), .int .u64 (Int.ofNat u)]) (runX_sound mixed none_sound (rcas_y a.1 a.2.1 a.2.2 m.st (getW m.ms a) u u (.int .u8 m.kd) (.int .u8 m.a.1) (.int .i64 m.a.2.1) (.int .i64 m.a.2.2) (.int .u64 (Int.ofNat m.was)) (.int .u64 (Int.ofNat m.is)) (.bool m.dn) (LV m.ms 5) lv o o' o2 w) ⟨wq _ rfl rfl, qeq _ _ true (by simp [hw]), rmayq a h0 true hy, escAny hp _, ?_, trivial⟩) h2 rfl rfl rfl rfl rfl
    have := word_row2 (m' := ⟨putW m.ms a u, inc m.st, m.kd, m.a, m.was, m.is, m.dn⟩) (s' := ⟨⟨[(7, o2), (6, .cells false [.int .u8 a.1, .int .i64 a.2.1, .int .i64 a.2.2]), (4, .cells false (PM.C ⟨putW m.ms a u, inc m.st, m.kd, m.a, m.was, m.is, m.dn⟩ lv)), (5, o')], 4, some 4, [4, 5, 4]⟩, 8⟩) h2 (put_small hl a u) rfl rfl rfl a
    rw [put_get] at this
    exact this
  · have hd0 : m.casd a w = false := by simpa using hd
    have ec : m.cas a w u = ⟨m.ms, inc m.st, 3, a, getW m.ms a, getW m.ms a, false⟩ := by unfold PM.cas; rw [if_neg hd]
    rw [ec, hd0]
    by_cases hw : getW m.ms a = w
    · have hy : mayA a = false := by
        unfold PM.casd at hd0
        simpa [hw] using hd0
      exact row_same (m := m) (m' := ⟨m.ms, inc m.st, 3, a, getW m.ms a, getW m.ms a, false⟩) hb ho hr hne rfl (args := [.ptr 4 0, .agg (ak a), .int .u64 (Int.ofNat w), .int .u64 (Int.ofNat u)]) (runX_sound mixed none_sound (rcas_n a.1 a.2.1 a.2.2 m.st (getW m.ms a) u (getW m.ms a) (.int .u8 m.kd) (.int .u8 m.a.1) (.int .i64 m.a.2.1) (.int .i64 m.a.2.2) (.int .u64 (Int.ofNat m.was)) (.int .u64 (Int.ofNat m.is)) (.bool m.dn) (LV m.ms 5) .nilMap o .dead .dead w) ⟨wq _ rfl rfl, qeq _ _ true (by simp [hw]), rmayq a h0 false hy, word_at (m := ⟨m.ms, inc m.st, m.kd, m.a, m.was, m.is, m.dn⟩) (b := 4) (bL := 5) rfl rfl hr (by decide) hl2 a, trivial⟩) rfl rfl rfl rfl
    · exact row_same (m := m) (m' := ⟨m.ms, inc m.st, 3, a, getW m.ms a, getW m.ms a, false⟩) hb ho hr hne rfl (args := [.ptr 4 0, .agg (ak a), .int .u64 (Int.ofNat w), .int .u64 (Int.ofNat u)]) (runX_sound mixed none_sound (rcas_o a.1 a.2.1 a.2.2 m.st (getW m.ms a) u (getW m.ms a) (.int .u8 m.kd) (.int .u8 m.a.1) (.int .i64 m.a.2.1) (.int .i64 m.a.2.2) (.int .u64 (Int.ofNat m.was)) (.int .u64 (Int.ofNat m.is)) (.bool m.dn) (LV m.ms 5) .nilMap o .dead .dead w) ⟨wq _ rfl rfl, qeq _ _ false (by simp [hw]), word_at (m := ⟨m.ms, inc m.st, m.kd, m.a, m.was, m.is, m.dn⟩) (b := 4) (bL := 5) rfl rfl hr (by decide) hl2 a, trivial⟩) rfl rfl rfl rfl
end
end Go.Proofs.YtchekpapgfojhaaGreatDoor.ctlsFallback
