/- The row that the law makes for the document grows, and is the row that came in. Conditions: those that each theorem names, and no others. -/
import Derived.Test.YtipadnlhcnmgaaaDoorStep18
namespace Go.Proofs.YtipadnlhcnmgaaaDoor.ghostsStep
open Go Go.Mini
section
variable (L : List Gh) (a : Ac) (z : Zz)
noncomputable def Bv : List (Nat × AObj) := [(4, .cells false (zC z)), (3, .cells false (acC a)), (2, .cells true (rowsOf ghC L)), (0, .cells true wf), (1, .cells true lf)]
noncomputable def deads : Nat → List (Nat × AObj)
  | 0 => Bv L a z
  | j + 1 => (j + 5, .dead) :: deads j
noncomputable def Hv : Nat → List (Nat × AObj)
  | 0 => Bv L a z
  | k + 1 => (k + 5, .cells false (rowsOf ghC (L.take (k + 1)))) :: deads L a z k
end
def rowV : Nat → AV
  | 0 => .nilSlice
  | k + 1 => .osl (k + 5) 0 (k + 1) 5
theorem sees_lo {x : AV} {n m : Nat} (h : x.names (fun c => Nat.blt c 5) = true) (hn : 5 ≤ n) : x.names (fun c => Nat.blt c (n + 1)) = true ∧ x = x.ren (fun b => if b = n then m else b) := by
  refine ⟨names_sub (fun b hb => ?_) h, ?_⟩
  · have : b < 5 := by simpa using hb
    simpa using (show b < n + 1 by omega)
  · rw [ren_congr (p := fun c => Nat.blt c 5) (π' := fun b => b) (fun b hb => ?_) h, ren_id]
    have : b < 5 := by simpa using hb
    rw [if_neg (by omega)]
theorem names_none {x : AV} (h : x.names (fun _ => false) = true) : x.names (fun c => Nat.blt c 5) = true := names_sub (fun _ h => by cases h) h
theorem row_see {n m k : Nat} (l : Nat) : (AV.osl n 0 k l).names (fun c => Nat.blt c (n + 1)) = true ∧ AV.osl m 0 k l = (AV.osl n 0 k l).ren (fun b => if b = n then m else b) := by
  refine ⟨?_, ?_⟩
  · show Nat.blt n (n + 1) = true
    simp
  · show _ = AV.osl (if n = n then m else n) 0 k l
    rw [if_pos rfl]
theorem bv_each (L : List Gh) (a : Ac) (z : Zz) (n : Nat) (hn : 5 ≤ n) : eachB (fun b o => b < n ∧ (o = .dead ∨ o.names (fun c => Nat.blt c n) = true)) (Bv L a z) := by
  have gn : namess (fun c => Nat.blt c n) (rowsOf ghC L) = true := gh_names L
  exact ⟨⟨by omega, .inr rfl⟩, ⟨by omega, .inr rfl⟩, ⟨by omega, .inr gn⟩, ⟨by omega, .inr (names_sub (a := .agg wf) (p := fun _ => false) (fun _ h => by cases h) rfl)⟩, ⟨by omega, .inr (names_sub (a := .agg lf) (p := fun _ => false) (fun _ h => by cases h) rfl)⟩, trivial⟩
theorem deads_each (L : List Gh) (a : Ac) (z : Zz) : ∀ (j n : Nat), j + 5 ≤ n → eachB (fun b o => b < n ∧ (o = .dead ∨ o.names (fun c => Nat.blt c n) = true)) (deads L a z j)
  | 0, n, h => bv_each L a z n (by omega)
  | j + 1, n, h => ⟨⟨by omega, .inl rfl⟩, deads_each L a z j n (by omega)⟩
theorem same_refl (l : List Nat) : ∀ bs : List (Nat × AObj), sameBut l bs bs
  | [] => rfl
  | x :: t => ⟨x, t, rfl, rfl, .inr rfl, same_refl l t⟩
theorem getB_deads (L : List Gh) (a : Ac) (z : Zz) (b : Nat) (hb : b < 5) : ∀ j, getB (deads L a z j) b = getB (Bv L a z) b
  | 0 => rfl
  | j + 1 => by
    show getB ((j + 5, .dead) :: deads L a z j) b = _
    rw [getB_cons, if_neg (by omega), getB_deads L a z b hb j]
theorem take_row (L : List Gh) (k : Nat) (h : k < L.length) : rowsOf ghC (L.take (k + 1)) = rowsOf ghC (L.take k) ++ ghC (eL L k) := by
  have : L.take (k + 1) = L.take k ++ [eL L k] := by
    rw [List.take_add_one, eL_at h]
    rfl
  rw [this]
  simp [rowsOf]
theorem rows_len (l : List Gh) : (rowsOf ghC l).length = l.length * 5 := by
  induction l with
  | nil => rfl
  | cons x l ih =>
    show (ghC x ++ rowsOf ghC l).length = _
    rw [List.length_append, ih]
    simp [ghC]
    omega
theorem rows_one (l : List Gh) : (rowsOf ghC l).all AV.one = true := by
  induction l with
  | nil => rfl
  | cons x l ih =>
    show (ghC x ++ rowsOf ghC l).all AV.one = true
    rw [List.all_append, ih]
    rfl
theorem t78 : Tryd.prog.underlying 78 = some (.slice 79) := by kernel_rfl
theorem z79 : sizeA Tryd.prog 79 = some 5 := by kernel_rfl
theorem r78 : rowT Tryd.prog 78 78 5 = true := by kernel_rfl
theorem g3 : isAggA Tryd.prog 3 = some false := by kernel_rfl
theorem g55 : isAggA Tryd.prog 55 = some false := by kernel_rfl
theorem gv_loop (L : List Gh) (a : Ac) (z : Zz) (n c : Nat) (hn : n ≤ L.length) (hn' : n < 1000) : ∀ (d k : Nat) (q1 q2 q3 : AV), n - k = d → k ≤ n → q1.names (fun _ => false) = true → q2.names (fun _ => false) = true → q3.names (fun _ => false) = true →
    ∃ l q1' q2' q3', q1'.names (fun _ => false) = true ∧ q2'.names (fun _ => false) = true ∧ q3'.names (fun _ => false) = true ∧ ∀ W, Sound Tryd.prog (.code (.loop (loopAt Tryd.prog 7 0)) (Tv a z (.slice 2 0 n c) 3 4 k (rowV k) q1 q2 q3) ⟨⟨Hv L a z k, 5 + k, none, W⟩, 5 + k⟩)
      ⟨.exit 0, Tv a z (.slice 2 0 n c) 3 4 n (rowV n) q1' q2' q3', ⟨⟨Hv L a z n, 5 + n, none, l ++ W⟩, 5 + n⟩⟩ := by
  intro d
  induction d with
  | zero =>
    intro k q1 q2 q3 hd hk h1 h2 h3
    have : k = n := by omega
    subst this
    refine ⟨[], .bool false, q2, q3, rfl, h2, h3, fun W => ?_⟩
    refine SoundL.stop (L0 := []) (SoundL.plain (runX_sound mixed none_sound (gv_end a z (.slice 2 0 k c) k k (5 + k) 3 4 (5 + k) (rowV k) q1 q2 q3 (Hv L a z k)) ⟨by simp [Qst.ok, lenA], by simp [Qst.ok], trivial⟩) ?_) (by simp) none none W
    unfold Tv
    repeat (first | exact rfl | refine ⟨_, _, rfl, ?_, ?_⟩ | exact .inl ⟨rfl, rfl⟩ | exact see_same _)
  | succ d ih =>
    intro k q1 q2 q3 hd hk h1 h2 h3
    have hkn : k < n := by omega
    have rd : ∀ s : AS, s.get 2 = some (.cells true (rowsOf ghC L)) → loadA Tryd.prog s 3 (.ptr 2 (k * 5 + 0)) = some (.int .i64 (eL L k).th) ∧ loadA Tryd.prog s 3 (.ptr 2 (k * 5 + 1)) = some (.int .i64 (eL L k).pl) := fun s hs =>
      ⟨ld_rowCell (P := Tryd.prog) (f := ghC) (n := 5) (i := 0) (fun _ => rfl) g3 hs (eL_at (by omega)) rfl, ld_rowCell (P := Tryd.prog) (f := ghC) (n := 5) (i := 1) (fun _ => rfl) g3 hs (eL_at (by omega)) rfl⟩
    have ix : indexAddrA Tryd.prog 54 (.slice 2 0 n c) (.int .i64 (Int.ofNat k)) = some (.ptr 2 (k * 5)) := by
      have := idx_slice (P := Tryd.prog) (b := 2) (o := 0) (cap := c) (kk := .i64) t54 z61 hkn
      rwa [Nat.zero_add] at this
    have q0 : (Qst.val (some (AV.bool (decide (Int.ofNat k < ((n : Nat) : Int))))) (AV.bool true)).ok Tryd.prog := by simp [Qst.ok]; omega
    have q1' : (Qst.val (some (AV.int .i64 (IntKind.i64.wrap (Int.ofNat k + Int.ofNat 1)))) (AV.int .i64 (Int.ofNat (k + 1)))).ok Tryd.prog := by
      simp only [Qst.ok]
      rw [i64_wrap (by simp only [Int.ofNat_eq_natCast]; omega) (by simp only [Int.ofNat_eq_natCast]; omega)]
      rfl
    cases k with
    | zero =>
      have rd := rd ⟨⟨Hv L a z 0, 5, none, []⟩, 5⟩ rfl
      have rf := ld_ref (L := L) (k := 0) (s := ⟨⟨Hv L a z 0, 5, none, []⟩, 5⟩) (ro := true) rfl (by omega)
      have app := app_nil (P := Tryd.prog) (t := 78) (t2 := 78) (b2 := 5) (c2 := 1) (s := ⟨⟨(5, .cells false (ghC (eL L 0))) :: Hv L a z 0, 5 + 1, none, []⟩, 6⟩) (E := ghC (eL L 0)) r78 rfl rfl rfl
      have st := runX_sound mixed none_sound (gv_0 a z n c 0 5 0 .nilSlice q1 q2 q3 (Hv L a z 0) (Bv L a z) (ghC (eL L 0)) (eL L 0)) ⟨q0, ix, rd.1, ix, rd.2, ix, rf, app, q1', trivial⟩
      obtain ⟨l, p1, p2, p3, e1, e2, e3, h⟩ := ih 1 (.bool true) (.agg (zR ⟨(eL L 0).sl, (eL L 0).gn, (eL L 0).mr, 0, 0, 0⟩)) (.agg (ghC (eL L 0))) (by omega) (by omega) rfl rfl rfl
      refine ⟨l, p1, p2, p3, e1, e2, e3, fun W => ?_⟩
      have hW := h W
      have er : rowsOf ghC (L.take 1) = ghC (eL L 0) := by
        rw [take_row L 0 (by omega)]
        simp [rowsOf]
      have st := grow_step (l := []) (bs' := Bv L a z) (ts2 := Tv a z (.slice 2 0 n c) 3 4 1 (rowV 1) (.bool true) (.agg (zR ⟨(eL L 0).sl, (eL L 0).gn, (eL L 0).mr, 0, 0, 0⟩)) (.agg (ghC (eL L 0)))) st (same_refl _ _) (bv_each L a z 5 (by omega)) rfl (by
        unfold Tv
        repeat (first | exact rfl | refine ⟨_, _, rfl, ?_, ?_⟩ | exact .inl ⟨rfl, rfl⟩ | exact .inr (row_see 5) | exact .inr (sees_lo rfl (by omega)))) none none W
      refine loop_next st ?_
      have e5 : Hv L a z 1 = (5, .cells false (ghC (eL L 0))) :: Bv L a z := by
        show (5, AObj.cells false (rowsOf ghC (L.take 1))) :: _ = _
        rw [er]
        rfl
      rw [e5] at hW
      exact hW
    | succ k =>
      have h2g : AS.get ⟨⟨Hv L a z (k + 1), 5 + (k + 1), none, []⟩, k + 6⟩ 2 = some (.cells true (rowsOf ghC L)) := by
        show getB ((k + 5, _) :: deads L a z k) 2 = _
        rw [getB_cons, if_neg (by omega), getB_deads L a z 2 (by omega)]
        rfl
      have rd := rd _ h2g
      have rf := ld_ref (L := L) (k := k + 1) h2g (by omega)
      have app := app_osl (P := Tryd.prog) (t := 78) (t2 := 78) (b := k + 5) (b2 := k + 6) (c2 := 1) (k := k + 1) (s := ⟨⟨(k + 6, .cells false (ghC (eL L (k + 1)))) :: Hv L a z (k + 1), 5 + (k + 1) + 1, none, []⟩, k + 7⟩) (E := ghC (eL L (k + 1))) (R := rowsOf ghC (L.take (k + 1))) r78
        (by
          show getB ((k + 6, _) :: (k + 5, _) :: deads L a z k) (k + 5) = _
          rw [getB_cons, if_neg (by omega), getB_cons, if_pos rfl]) (by rw [rows_len, List.length_take, Nat.min_eq_left (by omega)]) (rows_one _)
        (by
          show getB ((k + 6, _) :: _) (k + 6) = _
          rw [getB_cons, if_pos rfl]) rfl rfl (by omega)
      rw [← take_row L (k + 1) (by omega)] at app
      have eset : AS.push (AS.set ⟨⟨(k + 6, .cells false (ghC (eL L (k + 1)))) :: Hv L a z (k + 1), 5 + (k + 1) + 1, none, []⟩, k + 7⟩ (k + 5) .dead) (.cells false (rowsOf ghC (L.take (k + 1 + 1)))) =
          ⟨⟨(k + 7, .cells false (rowsOf ghC (L.take (k + 2)))) :: (k + 6, .cells false (ghC (eL L (k + 1)))) :: (deads L a z (k + 1)), 5 + (k + 1) + 2, none, [k + 5]⟩, k + 7 + 1⟩ := by
        show (⟨⟨(k + 7, _) :: setB ((k + 6, _) :: (k + 5, _) :: deads L a z k) (k + 5) .dead, _, none, _⟩, _⟩ : AS) = _
        have e : setB ((k + 6, .cells false (ghC (eL L (k + 1)))) :: (k + 5, .cells false (rowsOf ghC (L.take (k + 1)))) :: deads L a z k) (k + 5) .dead = (k + 6, .cells false (ghC (eL L (k + 1)))) :: deads L a z (k + 1) := by
          have b1 : Nat.beq (k + 6) (k + 5) = false := by
            cases hb : Nat.beq (k + 6) (k + 5) with
            | false => rfl
            | true =>
              have := Nat.eq_of_beq_eq_true hb
              omega
          have b2 : Nat.beq (k + 5) (k + 5) = true := Nat.beq_refl _
          simp only [setB, b1, b2, if_true, Bool.false_eq_true, if_false]
          rfl
        rw [e]
        rfl
      rw [eset] at app
      have st := runX_sound mixed none_sound (gv_k a z n c k (5 + (k + 1)) ((k + 1) * 5) (rowV (k + 1)) q1 q2 q3 (Hv L a z (k + 1)) (deads L a z (k + 1)) (rowsOf ghC (L.take (k + 2))) (eL L (k + 1))) ⟨q0, ix, rd.1, ix, rd.2, ix, rf, app, q1', trivial⟩
      obtain ⟨l, p1, p2, p3, e1, e2, e3, h⟩ := ih (k + 2) (.bool true) (.agg (zR ⟨(eL L (k + 1)).sl, (eL L (k + 1)).gn, (eL L (k + 1)).mr, 0, 0, 0⟩)) (.agg (ghC (eL L (k + 1)))) (by omega) (by omega) rfl rfl rfl
      refine ⟨l ++ [k + 5], p1, p2, p3, e1, e2, e3, fun W => ?_⟩
      have hW := h ([k + 5] ++ W)
      rw [← List.append_assoc] at hW
      have st := grow_step (l := [k + 5]) (bs' := deads L a z (k + 1)) (ts2 := Tv a z (.slice 2 0 n c) 3 4 (k + 2) (rowV (k + 2)) (.bool true) (.agg (zR ⟨(eL L (k + 1)).sl, (eL L (k + 1)).gn, (eL L (k + 1)).mr, 0, 0, 0⟩)) (.agg (ghC (eL L (k + 1))))) st
        ⟨(k + 5, .dead), deads L a z k, rfl, rfl, .inl (by simp), same_refl _ _⟩ (deads_each L a z (k + 1) (k + 6) (by omega)) (gh_names _) (by
        unfold Tv
        repeat (first | exact rfl | refine ⟨_, _, rfl, ?_, ?_⟩ | exact .inl ⟨rfl, rfl⟩ | exact .inr (row_see 5) | exact .inr (sees_lo rfl (by omega)))) none none W
      have n1 : 5 + (k + 1) = k + 6 := by omega
      have n2 : 5 + (k + 2) = k + 6 + 1 := by omega
      rw [n1]
      rw [n2] at hW
      rw [n1] at st
      exact loop_next st hW
end Go.Proofs.YtipadnlhcnmgaaaDoor.ghostsStep
