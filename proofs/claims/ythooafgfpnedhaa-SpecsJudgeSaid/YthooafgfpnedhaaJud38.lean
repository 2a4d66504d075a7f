/- The parts of the law: rows of calls, Other, Same, the compare. Conditions: those that each theorem names, and no others. -/
import Derived.Test.YthooafgfpnedhaaJud36
import Derived.Test.YthooafgfpnedhaaJud37
import Derived.Test.YthooafgfpnedhaaJud28
namespace Go.Proofs.Ythooafgfpnedhaa.specsJudge
open Go Go.Mini
/-! ### SpecsJudge: the parts of the law -/
theorem take_at {L : List Call9} {n i : Nat} (h1 : n ≤ L.length) (hi : i < n) : L[i]? = some (fA (L.take n) i) := by
  have := fA_at (A := L.take n) (i := i) (by rw [List.length_take]; omega)
  rw [← this, List.getElem?_take_of_lt hi]
theorem rwc_sl (L : List Call9) (n c : Nat) (h1 : n ≤ L.length) (h2 : n ≤ 1000) : RwC (.slice 0 0 n c) n (rowsOf callC L) (fA (L.take n)) where
  len s := by simp only [lenA, t50]; rfl
  at_ i hi := by
    have hx := take_at h1 hi
    refine ⟨0 + i * 9, idx_slice t50 s56 hi, fun s ro h => ?_⟩
    rw [Nat.zero_add]
    exact ⟨ld_row (f := callC) (n := 9) (fun _ => rfl) a56 s56 h hx, ld_rowCell (f := callC) (n := 9) (i := 7) (fun _ => rfl) a3 h hx rfl⟩
  small := h2
  nm := names_calls _ L
  kind := .inl ⟨c, rfl⟩
/-- A byte. -/
def By (x : Int) : Prop := 0 ≤ x ∧ x ≤ 255
def Byt (z : Call9) : Prop := By z.2.1 ∧ By (ansF z)
theorem wqB {x : Int} (h : By x) : (Qst.val (some (AV.int .i64 (IntKind.i64.wrap x))) (AV.int .i64 x)).ok Try.prog := by
  obtain ⟨m, rfl⟩ : ∃ m : Nat, x = Int.ofNat m := ⟨x.toNat, by have := h.1; simp only [Int.ofNat_eq_natCast]; omega⟩
  have := h.2
  exact wq _ rfl (by simp only [Int.ofNat_eq_natCast] at this; omega)
theorem otC {z : Call9} (h : Byt z) (s : AS) : Sound Try.prog (.call 18 [.agg (callC z)] s) ⟨.ret, [.agg (callO z)], s⟩ := by
  obtain ⟨a1, a2, a3, a4, a5, a6, a7, a8, a9⟩ := z
  exact put_val0 (runX_sound mixed none_sound (ot .nilFunc .nilFunc .nilFunc .nilFunc .nilFunc 0 0 0 0 0 0 false 0 0 0 a1 a2 a3 a4 a5 a6 a7 a8 a9 .dead .dead .dead [] []) ⟨wqB h.1, wqB h.2, trivial⟩) rfl rfl s
theorem eq53 (s : AS) (a1 a2 a3 a4 a5 a6 a7 a8 a9 b1 b2 b3 b4 b5 b6 b7 b8 b9 : Int) : eqlA Try.prog s 53 (.agg (callO (a1, a2, a3, a4, a5, a6, a7, a8, a9))) (.agg (callO (b1, b2, b3, b4, b5, b6, b7, b8, b9))) =
    (bif a1 == b1 then (bif a2 == b2 then (bif a3 == b3 then (bif a4 == b4 then (bif a5 == b5 then (bif a6 == b6 then (bif a7 == b7 then (bif a8 == b8 then (bif a9 == b9 then some true else some false) else some false) else some false) else some false) else some false) else some false) else some false) else some false) else some false) := by kernel_rfl
theorem eq53_same (s : AS) (z : Call9) : eqlA Try.prog s 53 (.agg (callO z)) (.agg (callO z)) = some true := by
  obtain ⟨a1, a2, a3, a4, a5, a6, a7, a8, a9⟩ := z
  rw [eq53]
  simp
/-! Same -/
theorem fA_mem {L : List Call9} {n i : Nat} (h1 : n ≤ L.length) (hi : i < n) : fA (L.take n) i ∈ L := List.mem_of_getElem? (take_at h1 hi)
def X3 (x : AV) : Prop := x = undefA ∨ (∃ z : Call9, x = .agg (callC z)) ∨ ∃ z : Call9, x = .agg (callO z)
section
variable {L : List Call9} {n c : Nat} (h1 : n ≤ L.length) (hs : n ≤ 100) (hB : ∀ z ∈ L, Byt z)
include h1 hs hB
theorem same_loop : ∀ (m i : Nat), n - i = m → i ≤ n → ∀ {x20 x21 x25 : AV}, ∃ y20 y21 y25, SoundL Try.prog [] (.loop (loopAt Try.prog 23 0)) (TS (.slice 0 0 n c) (.osl 1 0 n 9) x20 x21 x25 i) [(1, .cells true (co (L.take n))), (0, .cells true (rowsOf callC L))] 2 2 (.exit 0) (TS (.slice 0 0 n c) (.osl 1 0 n 9) y20 y21 y25 n) [(1, .cells true (co (L.take n))), (0, .cells true (rowsOf callC L))] := by
  intro m
  induction m with
  | zero =>
    intro i hm hi x20 x21 x25
    have : i = n := by omega
    subst this
    refine ⟨x20, x21, x25, SoundL.stop (SoundL.plain (runX_sound mixed none_sound (sa_end (.slice 0 0 i c) (.osl 1 0 i 9) x20 x21 x25 0 i i 0 0 0 false 0 0 0 0 0 0 0 0 0 0 0 0 .dead .dead .dead (rowsOf callC L) (co (L.take i))) ⟨(rwc_sl L i c h1 (by omega)).len _, ltq _ _ false (by simp), trivial⟩) ?_) (by simp)⟩
    unfold TS
    repeat (first | exact rfl | refine ⟨_, _, rfl, ?_, ?_⟩ | exact .inr ⟨rfl, rfl⟩ | exact .inl ⟨rfl, rfl⟩ | exact see_same _)
  | succ m ih =>
    intro i hm hi x20 x21 x25
    have hlt : i < n := by omega
    obtain ⟨z, hz⟩ : ∃ z, fA (L.take n) i = z := ⟨_, rfl⟩
    have hzB : Byt z := by rw [← hz]; exact hB _ (fA_mem h1 hlt)
    obtain ⟨y20, y21, y25, go⟩ := ih (i + 1) (by omega) (by omega) (x20 := .agg (callC z)) (x21 := .agg (callO z)) (x25 := .agg (callO z))
    have W := rwc_sl L n c h1 (by omega)
    obtain ⟨a, q1, q2⟩ := W.at_ i hlt
    have ha : a = 0 + i * 9 := by
      have := idx_slice (P := Try.prog) (b := 0) (o := 0) (cap := c) (kk := .i64) t50 s56 hlt
      rw [this] at q1
      exact ((AV.ptr.inj (Option.some.inj q1)).2).symm
    have l1 := (q2 ⟨⟨[(1, .cells true (co (L.take n))), (0, .cells true (rowsOf callC L))], 2, none, []⟩, 2⟩ true rfl).1
    rw [hz] at l1
    have hA : (L.take n).length = n := by rw [List.length_take]; omega
    have l2 := ld_O (A := L.take n) (i := i) (by omega) (s := ⟨⟨[(1, .cells true (co (L.take n))), (0, .cells true (rowsOf callC L))], 2, none, []⟩, 2⟩) (b := 1) (ro := true) rfl
    rw [hz] at l2
    refine ⟨y20, y21, y25, SoundL.next (SoundL.plain (runX_sound mixed none_sound (sa_go (.slice 0 0 n c) (.osl 1 0 n 9) x20 x21 x25 0 n i 0 a (i * 9) false 0 0 0 z.1 z.2.1 z.2.2.1 z.2.2.2.1 z.2.2.2.2.1 z.2.2.2.2.2.1 z.2.2.2.2.2.2.1 z.2.2.2.2.2.2.2.1 z.2.2.2.2.2.2.2.2 .dead .dead .dead (rowsOf callC L) (co (L.take n))) ⟨W.len _, ltq _ _ true (by simpa using hlt), q1, l1, idx51 hlt, l2, otC hzB _, ⟨true, eq53_same _ z, rfl⟩, wq _ rfl (by omega), trivial⟩) ?_) go⟩
    unfold TS
    repeat (first | exact rfl | refine ⟨_, _, rfl, ?_, ?_⟩ | exact .inr ⟨rfl, rfl⟩ | exact .inl ⟨rfl, rfl⟩ | exact see_same _)
theorem sameC {s : AS} (g0 : s.get 0 = some (.cells true (rowsOf callC L))) (g1 : s.get 1 = some (.cells false (co (L.take n)))) : Sound Try.prog (.call 23 [.slice 0 0 n c, .osl 1 0 n 9] s) ⟨.ret, [.bool true], s⟩ := by
  obtain ⟨y20, y21, y25, go⟩ := same_loop (c := c) h1 hs hB n 0 rfl (Nat.zero_le _) (x20 := undefA) (x21 := undefA) (x25 := undefA)
  have W := rwc_sl L n c h1 (by omega)
  have run := runX_sound mixed none_sound (sa_call (.slice 0 0 n c) (.osl 1 0 n 9) y20 y21 y25 0 n 0 0 0 0 false 0 0 0 0 0 0 0 0 0 0 0 0 .dead .dead .dead (rowsOf callC L) (co (L.take n))) ⟨W.len _, ln_51 _ _ _, bq (by simp), by
    refine Sound.enter (go none none []) ?_
    unfold TS
    repeat (first | exact rfl | refine ⟨_, _, rfl, ?_, ?_⟩ | exact .inr ⟨rfl, rfl⟩ | exact .inl ⟨rfl, rfl⟩ | exact see_same _), trivial⟩
  have := Sound.putF (bs0 := []) (Fz := [(1, co (L.take n)), (0, rowsOf callC L)]) (n0 := 2) (nx0 := 2) run noG (fun b => b) [] s (fun x hx => by
    rcases List.mem_cons.1 hx with rfl | hx
    · exact ⟨show 1 < 2 by decide, by simp, names_co _ _, ⟨false, g1⟩, fun b hb => by cases hb⟩
    · have hx : x = (0, rowsOf callC L) := by simpa using hx
      subst hx
      exact ⟨show 0 < 2 by decide, by simp, names_calls _ _, ⟨true, g0⟩, fun b hb => by cases hb⟩) trivial (fun b hb => by cases hb) List.nodup_nil List.nodup_nil (fun b hb => by cases hb) rfl rfl
  exact this
end
/-! the compare of both witnesses -/
theorem cmp_loop {lA av x26 x27 : AV} {D : List Nat} (hD : D.length ≤ 1000) {oA o0 : AObj} : ∀ (m i : Nat), D.length - i = m → i ≤ D.length → SoundL Try.prog [] (.loop (loopAt Try.prog 5 1)) (TC lA av (.slice 2 0 D.length D.length) (.osl 3 0 D.length 1) x26 x27 i) [(3, .cells false (nc D)), (2, .cells false (nc D)), (1, oA), (0, o0)] 4 4 (.exit 2) (TC lA av (.slice 2 0 D.length D.length) (.osl 3 0 D.length 1) x26 x27 D.length) [(3, .cells false (nc D)), (2, .cells false (nc D)), (1, oA), (0, o0)] := by
  intro m
  induction m with
  | zero =>
    intro i hm hi
    have : i = D.length := by omega
    subst this
    refine SoundL.stop (SoundL.plain (runX_sound mixed none_sound (c_end lA av x26 x27 0 D.length 0 0 0 D.length false 0 0 0 0 0 0 0 0 0 0 .dead .dead .dead .dead .dead [] [(3, .cells false (nc D)), (2, .cells false (nc D)), (1, oA), (0, o0)]) ⟨bq (by simp), trivial⟩) ?_) (by simp)
    unfold TC
    repeat (first | exact rfl | refine ⟨_, _, rfl, ?_, ?_⟩ | exact .inr ⟨rfl, rfl⟩ | exact .inl ⟨rfl, rfl⟩ | exact see_same _)
  | succ m ih =>
    intro i hm hi
    have hlt : i < D.length := by omega
    have hx : D[i]? = some D[i] := List.getElem?_eq_getElem hlt
    have ix : (Qst.idx 57 (.slice 2 0 D.length D.length) (.int .i64 (Int.ofNat i)) (.ptr 2 i)).ok Try.prog := by
      have := idx_slice (P := Try.prog) (b := 2) (o := 0) (cap := D.length) (kk := .i64) t57 z3 hlt
      rw [Nat.zero_add, Nat.mul_one] at this
      exact this
    refine SoundL.next (SoundL.plain (runX_sound mixed none_sound (c_go lA av x26 x27 0 i 0 0 D[i] D.length false 0 0 0 0 0 0 0 0 0 0 .dead .dead .dead .dead .dead [] [(3, .cells false (nc D)), (2, .cells false (nc D)), (1, oA), (0, o0)]) ⟨bq (decide_eq_true (by simp only [Int.ofNat_eq_natCast]; omega)), ix, ld_nc hx rfl, idx57 hlt, ld_nc hx rfl, bq (by simp), wq _ rfl (by omega), trivial⟩) ?_) (ih (i + 1) (by omega) (by omega))
    unfold TC
    repeat (first | exact rfl | refine ⟨_, _, rfl, ?_, ?_⟩ | exact .inr ⟨rfl, rfl⟩ | exact .inl ⟨rfl, rfl⟩ | exact see_same _)
end Go.Proofs.Ythooafgfpnedhaa.specsJudge
