/- made, specs.Judge and lives wherever their rows lie; rows with one cell changed. Conditions: those that each theorem names, and no others. -/
import Derived.Test.YthooafgfpnedhaaWitn26
namespace Go.Proofs.Ythooafgfpnedhaa.specsWitness
open Go Go.Mini
theorem livR : runX Try.prog none_ 600 17 (.call 17 [] ⟨⟨[], 0, none, []⟩, 4⟩) [] = some ({ e := .ret, ts := [.bool true], s := ⟨⟨[], 0, some 4, []⟩, 98⟩ }, [], []) := by kernel_rfl
theorem livC (s : AS) : Sound Try.prog (.call 17 [] s) ⟨.ret, [.bool true], s⟩ :=
  Sound.put (bs0 := []) (runX_sound mixed none_sound livR trivial) noG (fun b => b) [] s trivial (fun b hb => by cases hb) List.nodup_nil List.nodup_nil (fun b hb => by cases hb) rfl rfl
section
variable {lA : AV} {n : Nat} {row : List AV} {f : Nat → Call9} (W : RwC lA n row f) {opN : Nat → Nat} (hop : ∀ d, d < n → (f d).2.1 = Int.ofNat (opN d) ∧ opN d < 8)
include W hop
/-- specs.Judge, wherever the rows lie. -/
theorem judgeC : ∃ D' : List Nat, D'.Perm (livesTo f n) ∧ Srt (fun i => atF (f i)) D' ∧ ∀ (s : AS) (ro : Bool) (b0 : Nat), s.get b0 = some (.cells ro row) → Sound Try.prog (.call 21 [lA.ren fun _ => b0] s) ⟨.ret, [judgeV (judgeL f opN D' ([], [], []))], s⟩ := by
  obtain ⟨D', p1, p2, s1, hs⟩ := judge_small W hop
  refine ⟨D', p1, p2, fun s ro b0 h0 => ?_⟩
  have hv : ∀ p, (judgeV (judgeL f opN D' ([], [], []))).names p = true := fun p => by
    unfold judgeV
    split <;> rfl
  have hr : ∀ π : Nat → Nat, (judgeV (judgeL f opN D' ([], [], []))).ren π = judgeV (judgeL f opN D' ([], [], [])) := fun π => by
    unfold judgeV
    split <;> rfl
  have := Sound.putR (bs0 := []) hs noG (fun _ => b0) [] s W.nm ⟨ro, h0⟩ (by decide) trivial (fun b hb => by cases hb) (fun b hb => by cases hb) List.nodup_nil List.nodup_nil (fun b hb => by cases hb) (and2 (W.xn (by decide)) rfl) (hv _)
  rw [hr] at this
  exact this
end
def oMC (n : Nat) (L : List Call9) : AObj := if n = 0 then phO else .cells false (rowsOf callC L)
def oMR (n : Nat) : AObj := if n = 0 then phO else .cells false (nc (List.range n))
section
variable {lA tA : AV} {n nt : Nat} {row trow : List AV} {f : Nat → Do3} {τ : Nat → Nat} (W : RwD lA n row f) (W2 : RwT tA nt trow τ)
include W W2
/-- made, wherever the rows lie. -/
theorem madeC {s : AS} {b0 b9 : Nat} {r0 r9 : Bool} (h0 : s.get b0 = some (.cells r0 row)) (h9 : s.get b9 = some (.cells r9 trow)) :
    Sound Try.prog (.call 24 [lA.ren (fun _ => b0), tA.ren (fun _ => b9)] s) ⟨.ret, [.tuple [cvv n s.nx, ovv n (s.nx + 1)]], (s.push (oMC n (LF f τ n))).push (oMR n)⟩ := by
  obtain ⟨bc, bo, s1, g1, g2, g3, hs, ho⟩ := made_small W W2
  have eL : lA.ren (fun b => if b = 9 then b9 else b0) = lA.ren (fun _ => b0) := by
    rcases W.kind with rfl | ⟨c, rfl⟩ <;> rfl
  have eT : tA.ren (fun b => if b = 9 then b9 else b0) = tA.ren (fun _ => b9) := by
    rcases W2.kind with rfl | ⟨c, rfl⟩ <;> rfl
  have hF : ∀ x ∈ [(9, trow), (0, row)], x.1 < 10 ∧ x.1 ∉ ([] : List (Nat × AObj)).map (·.1) ∧ namess (fun _ => false) x.2 = true ∧ (∃ ro, s.get ((fun b => if b = 9 then b9 else b0) x.1) = some (.cells ro x.2)) ∧ ∀ b ∈ ([] : List (Nat × AObj)).map (·.1), (fun b => if b = 9 then b9 else b0) b ≠ (fun b => if b = 9 then b9 else b0) x.1 := by
    intro x hx
    rcases List.mem_cons.1 hx with rfl | hx
    · exact ⟨show 9 < 10 by decide, by simp, W2.nm, ⟨r9, h9⟩, fun b hb => by cases hb⟩
    · have hx : x = (0, row) := by simpa using hx
      subst hx
      exact ⟨show 0 < 10 by decide, by simp, W.nm, ⟨r0, h0⟩, fun b hb => by cases hb⟩
  have ha : namess (fun b => Nat.blt b 10) [lA, tA] = true := and2 (W.xn (by decide)) (and2 (W2.xn (by decide)) rfl)
  by_cases hn : n = 0
  · have := Sound.putF (bs0 := []) (Fz := [(9, trow), (0, row)]) hs noG (fun b => if b = 9 then b9 else b0) [] s hF trivial (fun b hb => by cases hb) List.nodup_nil List.nodup_nil (fun b hb => by cases hb) ha (by unfold cvv ovv; rw [if_pos hn, if_pos hn]; rfl)
    have ev : (AV.tuple [cvv n bc, ovv n bo]).ren (pR 10 [] (fun b => if b = 9 then b9 else b0) s.nx) = .tuple [cvv n s.nx, ovv n (s.nx + 1)] := by
      unfold cvv ovv
      rw [if_pos hn, if_pos hn, if_pos hn, if_pos hn]
      rfl
    rw [ev] at this
    have h2 := Sound.ghost phO (Sound.ghost phO this)
    rw [show oMC n (LF f τ n) = phO from if_pos hn, show oMR n = phO from if_pos hn, ← eL, ← eT]
    exact h2
  · obtain ⟨k1, k2⟩ := ho (by omega)
    have oc : objAt s1 bc = .cells false (rowsOf callC (LF f τ n)) := by simp [objAt, k1]
    have oo : objAt s1 bo = .cells false (nc (List.range n)) := by simp [objAt, k2]
    have := Sound.putF (bs0 := []) (Fz := [(9, trow), (0, row)]) hs noG (fun b => if b = 9 then b9 else b0) [bc, bo] s hF trivial (fun b hb => by cases hb) List.nodup_nil (by simp [g3]) (fun b hb => by
      simp only [List.mem_cons, List.not_mem_nil, or_false] at hb
      rcases hb with rfl | rfl
      · exact ⟨g1, by rw [oc]; rfl, by rw [oc]; exact names_calls _ _⟩
      · exact ⟨g2, by rw [oo]; rfl, by rw [oo]; exact nc_names _ _⟩) ha (by
      unfold cvv ovv
      rw [if_neg hn, if_neg hn]
      show ((pN 10 [bc, bo] bc) && (pN 10 [bc, bo] bo && true)) = true
      simp [pN])
    have ec : pR 10 [bc, bo] (fun b => if b = 9 then b9 else b0) s.nx bc = s.nx := by
      unfold pR
      rw [if_neg (by omega)]
      simp
    have eo : pR 10 [bc, bo] (fun b => if b = 9 then b9 else b0) s.nx bo = s.nx + 1 := by
      unfold pR
      rw [if_neg (by omega)]
      have hb : (bc == bo) = false := by simpa using g3
      simp [List.idxOf_cons, hb]
    have ev : (AV.tuple [cvv n bc, ovv n bo]).ren (pR 10 [bc, bo] (fun b => if b = 9 then b9 else b0) s.nx) = .tuple [cvv n s.nx, ovv n (s.nx + 1)] := by
      unfold cvv ovv
      rw [if_neg hn, if_neg hn, if_neg hn, if_neg hn]
      show AV.tuple [.osl (pR 10 [bc, bo] _ s.nx bc) 0 n 9, .osl (pR 10 [bc, bo] _ s.nx bo) 0 n 1] = _
      rw [ec, eo]
    rw [ev] at this
    rw [show oMC n (LF f τ n) = .cells false (rowsOf callC (LF f τ n)) from if_neg hn, show oMR n = .cells false (nc (List.range n)) from if_neg hn, ← eL, ← eT]
    simp only [List.map_nil, setL, List.map_cons, pushL, oc, oo, (freeCalls _).ren, (freeRow _).ren] at this
    exact this
end
/-! rows of calls of one's own -/
def z9 : Call9 := (0, 0, 0, 0, 0, 0, 0, 0, 0)
theorem rwc_osl (L : List Call9) (hs : L.length ≤ 1000) : RwC (.osl 0 0 L.length 9) L.length (rowsOf callC L) (fun i => (L[i]?).getD z9) where
  len s := by simp only [lenA, t50]; rfl
  at_ i hi := by
    have hx : L[i]? = some ((L[i]?).getD z9) := by
      rw [List.getElem?_eq_getElem hi]
      rfl
    refine ⟨i * 9, ?_, fun s ro h => ⟨ld_row (f := callC) (n := 9) (fun _ => rfl) a56 s56 h hx, ld_rowCell (f := callC) (n := 9) (i := 7) (fun _ => rfl) a3 h hx rfl⟩⟩
    simp only [indexAddrA, t50, s56]
    simp [hi]
  small := hs
  nm := names_calls _ L
  kind := .inr rfl
theorem splice_pre {v : AV} : ∀ (A B : List AV) (j : Nat), Mini.splice (A.length + j) [v] (A ++ B) = (Mini.splice j [v] B).map (A ++ ·)
  | [], B, j => by simp
  | a :: A, B, j => by
    show Mini.splice (A.length + 1 + j) [v] (a :: (A ++ B)) = _
    rw [show A.length + 1 + j = (A.length + j) + 1 from by omega]
    show (match Mini.splice (A.length + j) [v] (A ++ B) with
      | some l => some (a :: l)
      | none => none) = _
    rw [splice_pre A B j]
    cases Mini.splice j [v] B <;> rfl
theorem splice_post {v : AV} : ∀ (A B : List AV) (j : Nat) (C : List AV), Mini.splice j [v] A = some C → Mini.splice j [v] (A ++ B) = some (C ++ B)
  | [], B, 0, C, h => by cases h
  | [], B, j + 1, C, h => by
    unfold Mini.splice at h
    split at h <;> cases h
  | a :: A, B, 0, C, h => by
    have e0 : ∀ D : List AV, Mini.splice 0 [v] (a :: D) = some (v :: D) := fun D => by simp only [Mini.splice]
    rw [e0] at h
    rw [← Option.some.inj h]
    exact e0 (A ++ B)
  | a :: A, B, j + 1, C, h => by
    have h : (match Mini.splice j [v] A with
      | some l => some (a :: l)
      | none => none) = some C := h
    cases hs : Mini.splice j [v] A with
    | none =>
      rw [hs] at h
      cases h
    | some l =>
      rw [hs] at h
      rw [← Option.some.inj h]
      show (match Mini.splice j [v] (A ++ B) with
        | some l => some (a :: l)
        | none => none) = _
      rw [splice_post A B j l hs]
      rfl
theorem splice_row {v : AV} {j : Nat} {z z' : Call9} (h : Mini.splice j [v] (callC z) = some (callC z')) : ∀ (L : List Call9) (i : Nat), L[i]? = some z → Mini.splice (i * 9 + j) [v] (rowsOf callC L) = some (rowsOf callC (L.set i z'))
  | [], i, hi => by simp at hi
  | x :: t, 0, hi => by
    have hx : x = z := by simpa using hi
    subst hx
    rw [Nat.zero_mul, Nat.zero_add]
    exact splice_post _ _ _ _ h
  | x :: t, i + 1, hi => by
    have ih := splice_row h t i (by simpa using hi)
    show Mini.splice ((i + 1) * 9 + j) [v] (callC x ++ rowsOf callC t) = some (callC x ++ rowsOf callC (t.set i z'))
    rw [show (i + 1) * 9 + j = (callC x).length + (i * 9 + j) from by show _ = 9 + _; omega, splice_pre, ih]
    rfl
theorem sto_row {s : AS} {b i j : Nat} {L : List Call9} {z z' : Call9} {t : TypeId} {k : IntKind} {x : Int} (hz : sizeA Try.prog t = some 1) (hs : s.get b = some (.cells false (rowsOf callC L))) (hi : L[i]? = some z) (h : Mini.splice j [AV.int k x] (callC z) = some (callC z')) :
    storeA Try.prog s t (.ptr b (i * 9 + j)) (.int k x) = some (s.set b (.cells false (rowsOf callC (L.set i z')))) := by
  simp only [storeA, hz, AV.cells]
  show (if Nat.beq 1 1 then writeA s b (i * 9 + j) [.int k x] else none) = _
  rw [if_pos (show Nat.beq 1 1 = true from rfl)]
  simp only [writeA, hs, splice_row h L i hi]
  rfl
end Go.Proofs.Ythooafgfpnedhaa.specsWitness
