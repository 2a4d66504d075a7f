/- The insertion sort of a piece. Conditions: those that each theorem names, and no others. -/
import Derived.Test.YthooafgfpnedhaaJud5
import Derived.Test.YthooafgfpnedhaaMini3
namespace Go.Proofs.Ythooafgfpnedhaa.specsJudge
open Go Go.Mini
/-! ### a row of numbers in block 2 -/
def nc (L : List Nat) : List AV := L.map fun d => .int .i64 (Int.ofNat d)
theorem nc_names (p : Nat → Bool) : ∀ L, namess p (nc L) = true
  | [] => rfl
  | x :: l => by show (true && namess p (nc l)) = true; rw [nc_names p l]; rfl
def bsS (D : List AV) (oB oL : AObj) : List (Nat × AObj) := [(2, .cells false D), (1, oB), (0, oL)]
theorem t57 : Try.prog.underlying 57 = some (.slice 3) := by kernel_rfl
theorem z3 : sizeA Try.prog 3 = some 1 := by kernel_rfl
theorem a3 : isAggA Try.prog 3 = some false := by kernel_rfl
theorem idx_q {n k : Nat} (hk : k < n) : (Qst.idx 57 (.osl 2 0 n 1) (.int .i64 (Int.ofNat k)) (.ptr 2 k)).ok Try.prog := by
  simp only [Qst.ok, indexAddrA, t57, z3]
  rw [if_pos ⟨by simp, by simp; omega⟩]
  simp
theorem ld_q {D : List Nat} {k y : Nat} {s : AS} (h : D[k]? = some y) (hs : s.get 2 = some (.cells false (nc D)) := by rfl) : (Qst.ld 3 s (.ptr 2 k) (.int .i64 (Int.ofNat y))).ok Try.prog :=
  ld_cell a3 hs (by simp [nc, h])
theorem splice_one {v : AV} : ∀ {cs : List AV} {k : Nat}, k < cs.length → Go.Mini.splice k [v] cs = some (cs.set k v)
  | [], _, h => by simp at h
  | x :: cs, 0, _ => by simp [Go.Mini.splice]
  | x :: cs, k + 1, h => by
    have := splice_one (v := v) (cs := cs) (k := k) (by simpa using h)
    simp [Go.Mini.splice, this]
theorem nc_set {D : List Nat} {k y : Nat} : (nc D).set k (.int .i64 (Int.ofNat y)) = nc (D.set k y) := by simp [nc, List.map_set]
theorem sto_q {D : List Nat} {k y : Nat} {oB oL : AObj} {W : List Nat} (hk : k < D.length) :
    (Qst.sto ⟨⟨[(2, .cells false (nc D)), (1, oB), (0, oL)], 3, none, W⟩, 3⟩ 3 (.ptr 2 k) (.int .i64 (Int.ofNat y)) (.tuple []) ⟨⟨[(2, .cells false (nc (D.set k y))), (1, oB), (0, oL)], 3, none, 2 :: W⟩, 3⟩).ok Try.prog := by
  refine ⟨?_, rfl⟩
  have h1 : Go.Mini.splice k [.int .i64 (Int.ofNat y)] (nc D) = some (nc (D.set k y)) := by rw [splice_one (by simpa [nc] using hk), nc_set]
  have h2 : AS.get ⟨⟨[(2, .cells false (nc D)), (1, oB), (0, oL)], 3, none, W⟩, 3⟩ 2 = some (.cells false (nc D)) := rfl
  simp only [storeA, z3]
  show (if Nat.beq [AV.int .i64 (Int.ofNat y)].length 1 = true then writeA _ 2 k [.int .i64 (Int.ofNat y)] else none) = _
  rw [if_pos (show Nat.beq [AV.int .i64 (Int.ofNat y)].length 1 = true from rfl)]
  simp only [writeA, h2, h1]
  rfl
section
variable {c : Code} {ts ts1 ts2 : List AV} {D D2 : List AV} {oB oL : AObj} {e : AExit} {esc1 : Option Nat} {wr1 : List Nat} (hB : oB.names (fun c => Nat.blt c 3) = true) (hL : oL.names (fun c => Nat.blt c 3) = true)
theorem same3 : sameBut [2] (bsS D oB oL) (bsS D2 oB oL) := ⟨_, _, rfl, rfl, .inl (by simp), _, _, rfl, rfl, .inr rfl, _, _, rfl, rfl, .inr rfl, rfl⟩
include hB hL
theorem SL (h : Sound Try.prog (.code c ts ⟨⟨bsS D oB oL, 3, none, []⟩, 3⟩) ⟨e, ts1, ⟨⟨bsS D2 oB oL, 3, esc1, wr1⟩, 3⟩⟩) (hts : seesT (fun b => b) (fun c => Nat.blt c 3) ts2 ts1) (hD : namess (fun c => Nat.blt c 3) D2 = true) : SoundL Try.prog [2] c ts (bsS D oB oL) 3 3 e ts2 (bsS D2 oB oL) :=
  SoundL.intro h hts same3 ⟨⟨hD, rfl⟩, ⟨hB, rfl⟩, ⟨hL, rfl⟩, trivial⟩
theorem CS {f : FuncId} {args : List AV} (h : Sound Try.prog (.call f args ⟨⟨bsS D oB oL, 3, none, []⟩, 3⟩) ⟨e, [.tuple []], ⟨⟨bsS D2 oB oL, 3, esc1, wr1⟩, 3⟩⟩) (hD : namess (fun c => Nat.blt c 3) D2 = true) (esc esc' : Option Nat) (W : List Nat) :
    Sound Try.prog (.call f args ⟨⟨bsS D oB oL, 3, esc, W⟩, 3⟩) ⟨.ret, [.tuple []], ⟨⟨bsS D2 oB oL, 3, esc', [2] ++ W⟩, 3⟩⟩ :=
  Sound.keepW [2] h rfl same3 ⟨⟨hD, rfl⟩, ⟨hB, rfl⟩, ⟨hL, rfl⟩, trivial⟩ esc esc' W
end
/-- A call that makes D' of the row D, and nothing else. -/
def CallS (f : FuncId) (args : List AV) (oB oL : AObj) (D D' : List Nat) : Prop := ∀ (esc esc' : Option Nat) (W : List Nat), Sound Try.prog (.call f args ⟨⟨bsS (nc D) oB oL, 3, esc, W⟩, 3⟩) ⟨.ret, [.tuple []], ⟨⟨bsS (nc D') oB oL, 3, esc', [2] ++ W⟩, 3⟩⟩
theorem i64_wrapS {x : Int} (h0 : -9223372036854775808 ≤ x) (h1 : x < 9223372036854775808) : IntKind.i64.wrap x = x := by
  simp [IntKind.wrap, IntKind.bits, IntKind.signed]; omega
theorem wq {n : Nat} (x : Int) (hx : x = Int.ofNat n) (h : n < 9223372036854775808) : (Qst.val (some (AV.int .i64 (IntKind.i64.wrap x))) (AV.int .i64 (Int.ofNat n))).ok Try.prog := by
  simp only [Qst.ok]
  rw [hx, i64_wrapS (by simp only [Int.ofNat_eq_natCast]; omega) (by simp only [Int.ofNat_eq_natCast]; omega)]
theorem sub_q {a b n : Nat} (hb : b ≤ a) (hn : n = a - b) (h : a < 9223372036854775808) : (Qst.val (some (AV.int .i64 (IntKind.i64.wrap (Int.ofNat a - Int.ofNat b)))) (AV.int .i64 (Int.ofNat n))).ok Try.prog :=
  wq _ (by simp only [Int.ofNat_eq_natCast]; omega) (by omega)
theorem ltq (a b : Nat) (r : Bool) (h : decide (a < b) = r) : (Qst.val (some (AV.bool (decide (Int.ofNat a < Int.ofNat b)))) (AV.bool r)).ok Try.prog := by
  simp only [Qst.ok]
  rw [← h]
  simp
theorem gtq (a b : Nat) (r : Bool) (h : decide (b < a) = r) : (Qst.val (some (AV.bool (decide (Int.ofNat a > Int.ofNat b)))) (AV.bool r)).ok Try.prog := by
  simp only [Qst.ok]
  rw [← h]
  congr 2
  simp
theorem leq (a b : Nat) (r : Bool) (h : decide (a ≤ b) = r) : (Qst.val (some (AV.bool (decide (Int.ofNat a ≤ Int.ofNat b)))) (AV.bool r)).ok Try.prog := by
  simp only [Qst.ok]
  rw [← h]
  simp
theorem neq (a b : Nat) (r : Bool) (h : decide (a ≠ b) = r) : (Qst.val (some (AV.bool (Int.ofNat a != Int.ofNat b))) (AV.bool r)).ok Try.prog := by
  simp only [Qst.ok]
  rw [← h]
  congr 2
  rw [Bool.eq_iff_iff]
  simp
  omega
theorem eqq (a b : Nat) (r : Bool) (h : decide (a = b) = r) : (Qst.val (some (AV.bool (Int.ofNat a == Int.ofNat b))) (AV.bool r)).ok Try.prog := by
  simp only [Qst.ok]
  rw [← h]
  congr 2
  rw [Bool.eq_iff_iff]
  simp
  omega
theorem set_at {α : Type} {L P T : List α} {x y : α} {k : Nat} (h : L = P ++ x :: T) (hk : k = P.length) : L.set k y = P ++ y :: T := by
  subst h hk
  exact set_mid P x y T
theorem get_at {α : Type} {L P T : List α} {x : α} {k : Nat} (h : L = P ++ x :: T) (hk : k = P.length) : L[k]? = some x := by
  subst h hk
  exact get_mid P x T
/-! ### swapRange -/
section
variable {oB oL : AObj} (hB : oB.names (fun c => Nat.blt c 3) = true) (hL : oL.names (fun c => Nat.blt c 3) = true) {n a b m : Nat} {cf : AV} (hcf : cf.names (fun c => Nat.blt c 3) = true) (hn : n < 1000000)
include hB hL hcf hn
theorem sr_loop {P M T : List Nat} (ha : a = P.length) : ∀ (X2 Y2 X1 Y1 : List Nat), X2.length = Y2.length → Y1.length = X1.length → m = X1.length + X2.length → b = P.length + m + M.length → n = b + m + T.length →
    SoundL Try.prog [2] (.loop (loopAt Try.prog 82 0)) (T82 n a b m cf X1.length) (bsS (nc (P ++ (Y1 ++ (X2 ++ (M ++ (X1 ++ (Y2 ++ T))))))) oB oL) 3 3 (.exit 0) (T82 n a b m cf m) (bsS (nc (P ++ (Y1 ++ (Y2 ++ (M ++ (X1 ++ (X2 ++ T))))))) oB oL) := by
  intro X2
  induction X2 with
  | nil =>
    intro Y2 X1 Y1 h1 h2 h3 h4 h5
    have : Y2 = [] := List.eq_nil_of_length_eq_zero (by simpa using h1.symm)
    subst this
    simp only [List.length_nil, Nat.add_zero] at h3
    subst h3
    refine SoundL.stop (SL hB hL (runX_sound mixed none_sound (sr_end n a b X1.length X1.length 0 0 0 0 0 0 0 0 0 0 0 0 0 0 0 oB oL _ [] [] [] [] cf) ⟨ltq _ _ _ (by simp), trivial⟩) ?_ (nc_names _ _)) (by simp)
    unfold T82
    repeat (first | exact rfl | refine ⟨_, _, rfl, ?_, ?_⟩ | exact .inr ⟨rfl, rfl⟩ | exact .inl ⟨rfl, rfl⟩ | exact .inr ⟨hcf, (ren_id _).symm⟩)
  | cons x X2 ih =>
    intro Y2 X1 Y1 h1 h2 h3 h4 h5
    cases Y2 with
    | nil => simp at h1
    | cons y Y2 =>
      have l1 : X2.length = Y2.length := by simpa using h1
      simp only [List.length_cons] at h3
      have e1 : P ++ (Y1 ++ (x :: X2 ++ (M ++ (X1 ++ (y :: Y2 ++ T))))) = (P ++ Y1) ++ x :: (X2 ++ (M ++ (X1 ++ (y :: Y2 ++ T)))) := by simp
      have e2 : P ++ (Y1 ++ (x :: X2 ++ (M ++ (X1 ++ (y :: Y2 ++ T))))) = (P ++ (Y1 ++ (x :: X2 ++ (M ++ X1)))) ++ y :: (Y2 ++ T) := by simp
      have s1 : (P ++ (Y1 ++ (x :: X2 ++ (M ++ (X1 ++ (y :: Y2 ++ T)))))).set (a + X1.length) y = (P ++ (Y1 ++ (y :: X2 ++ (M ++ X1)))) ++ y :: (Y2 ++ T) := by
        rw [set_at e1 (by simp; omega)]
        simp
      have s2 : ((P ++ (Y1 ++ (x :: X2 ++ (M ++ (X1 ++ (y :: Y2 ++ T)))))).set (a + X1.length) y).set (b + X1.length) x = P ++ ((Y1 ++ [y]) ++ (X2 ++ (M ++ ((X1 ++ [x]) ++ (Y2 ++ T))))) := by
        rw [s1, set_at rfl (by simp; omega)]
        simp
      have hl : (P ++ (Y1 ++ (x :: X2 ++ (M ++ (X1 ++ (y :: Y2 ++ T)))))).length = n := by simp; omega
      have ih := ih Y2 (X1 ++ [x]) (Y1 ++ [y]) l1 (by simp [h2]) (by simp; omega) h4 h5
      have e3 : P ++ ((Y1 ++ [y]) ++ (Y2 ++ (M ++ ((X1 ++ [x]) ++ (X2 ++ T))))) = P ++ (Y1 ++ (y :: Y2 ++ (M ++ (X1 ++ (x :: X2 ++ T))))) := by simp
      rw [e3, ← s2, show (X1 ++ [x]).length = X1.length + 1 from by simp] at ih
      refine SoundL.next (SL hB hL (runX_sound mixed none_sound (sr_go n a b m X1.length 0 0 0 0 0 0 0 0 0 0 0 x y 0 0 oB oL _ _ _ [] [] cf)
        ⟨ltq _ _ _ (by simp; omega), wq _ rfl (by omega), wq _ rfl (by omega), wq _ rfl (by omega), idx_q (by omega), ld_q (get_at e2 (by simp; omega)), wq _ rfl (by omega), idx_q (by omega), ld_q (get_at e1 (by simp; omega)), idx_q (by omega), sto_q (by omega), idx_q (by omega), sto_q (by rw [List.length_set]; omega), wq _ rfl (by omega), trivial⟩) ?_ (nc_names _ _)) ih
      unfold T82
      repeat (first | exact rfl | refine ⟨_, _, rfl, ?_, ?_⟩ | exact .inr ⟨rfl, rfl⟩ | exact .inl ⟨rfl, rfl⟩ | exact .inr ⟨hcf, (ren_id _).symm⟩)
theorem sr_all {P X M Y T : List Nat} (ha : a = P.length) (hxy : X.length = Y.length) (hm : m = X.length) (hb : b = P.length + m + M.length) (hnn : n = b + m + T.length) :
    CallS 82 [.osl 2 0 n 1, .int .i64 (Int.ofNat a), .int .i64 (Int.ofNat b), .int .i64 (Int.ofNat m), cf] oB oL (P ++ (X ++ (M ++ (Y ++ T)))) (P ++ (Y ++ (M ++ (X ++ T)))) := by
  intro esc esc' W
  have h := sr_loop hB hL hcf hn ha (M := M) (T := T) X Y [] [] hxy rfl (by simpa using hm) hb hnn none none []
  simp only [List.nil_append] at h
  refine CS hB hL (runX_sound mixed none_sound (sr_call n a b m 0 0 0 0 0 0 0 0 0 0 0 0 0 0 0 0 oB oL _ (nc (P ++ (Y ++ (M ++ (X ++ T))))) [] [] [] cf) ⟨Sound.enter h ?_, trivial⟩) (nc_names _ _) esc esc' W
  unfold T82
  repeat (first | exact rfl | refine ⟨_, _, rfl, ?_, ?_⟩ | exact .inr ⟨rfl, rfl⟩ | exact .inl ⟨rfl, rfl⟩ | exact see_same _)
end
end Go.Proofs.Ythooafgfpnedhaa.specsJudge
