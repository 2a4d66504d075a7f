/- The states of a taker, plainly, and that its steps go by them. Conditions: those that each theorem names, and no others. -/
import Derived.Test.YtimnagafechmbaaGreatDoorOrph8
namespace Go.Proofs.YtimnagafechmbaaGreatDoor.scansOrphans
open Go Go.Mini Go.Mini.Fast
/-! ### the states of a taker, plainly; how they follow one another; that a taker's step does so -/
inductive LS where
  | t1 (hd : Nat) | t2 (hd : Nat) | t3 (i : Nat) | t4 (i : Nat) | t5 (i : Nat) | t6 (i : Nat) | t7 (i : Nat)
  | s0 (m : Nat) | a1 (m : Nat) | a2 (m e : Nat) | a3 (m e k : Nat) | a4 (m e : Nat) | b1 (m : Nat) | b2 (m r : Nat) | k1 (m : Nat) | k2 (m j : Nat) | e0 (m : Nat)
  | f1 (i : Nat) | f2 (i : Nat) | f3 (i : Nat) | f4 (i : Nat) | f5 (i w : Nat) | f6 (i w : Nat) | dn (m : Nat)
def base (k : Bool) (x : AV) (y : Bool) : List (Nat × AObj) := [(6, twoO k x (yv y)), (7, guardO (bif k then 1 else 0))]
def gotB : Nat → List (Nat × AObj)
  | 0 => []
  | i + 1 => [(13, .cells false (ents (i + 1)))]
def hadB : Nat → List (Nat × AObj)
  | 0 => []
  | m + 1 => [(12, .map (hadL (m + 1)) (List.range (m + 1)) (m + 1)), (13, .cells false (ents (m + 1)))]
def esOf : Nat → Int
  | 0 => 0
  | i + 1 => sl i
def fB0 (n i : Nat) : List (Nat × AObj) := [(8, .cells false [.nilSlice, .map 12]), (10, XF n (6 * (i + 1)) (n - 1 - i) (n - 1 - i) (i + 1)), (15, .cells false (ents n)), (19, .cells false (refs (i + 1)))]
def own (n hw : Nat) (k y : Bool) : LS → List (Nat × AObj)
  | .t1 hd => base k .nilPtr y ++ [(8, listO 0), (9, takeO 1 hd 0 0 .nilSlice)]
  | .t2 hd => base k .nilPtr y ++ [(8, listO 0), (9, takeO 2 hd 0 0 .nilSlice)]
  | .t3 i => base k .nilPtr y ++ [(8, listO 0), (9, takeO 3 hw (sl i) (esOf i) (gotV i))] ++ gotB i
  | .t4 i => base k .nilPtr y ++ [(8, listO 0), (9, takeO 4 hw (sl i) (sl i) (gotV i))] ++ gotB i
  | .t5 i => base k .nilPtr y ++ [(8, listO 0), (9, takeO 5 hw (sl i) (sl i) (gotV i))] ++ gotB i
  | .t6 i => base k .nilPtr y ++ [(8, listO 0), (9, takeO 6 hw (sl i) (sl i) (gotV i))] ++ gotB i
  | .t7 i => base k .nilPtr y ++ [(8, listO 0), (9, takeO 7 hw (sl i) (sl i) (gotV (i + 1)))] ++ gotB (i + 1)
  | .s0 m => base k (.ptr 10 0) y ++ [(8, listO m), (10, scanO (F3 tLd) 0 0 .nilSlice .nilSlice .nilSlice), (11, ldO 3 0)] ++ hadB m
  | .a1 m => base k (.ptr 10 0) y ++ [(8, listO m), (10, XN tAdv m), (11, advO 1 0 0 0 false)] ++ hadB m
  | .a2 m e => base k (.ptr 10 0) y ++ [(8, listO m), (10, XN tAdv m), (11, advO 2 e 0 0 false)] ++ hadB m
  | .a3 m e i => base k (.ptr 10 0) y ++ [(8, listO m), (10, XN tAdv m), (11, advO 3 e i 4 false)] ++ hadB m
  | .a4 m e => base k (.ptr 10 0) y ++ [(8, listO m), (10, XN tAdv m), (11, advO 4 e 4 4 false)] ++ hadB m
  | .b1 m => base k (.ptr 10 0) y ++ [(8, listO m), (10, XN tBmp m), (11, bmpO 2 0)] ++ hadB m
  | .b2 m r => base k (.ptr 10 0) y ++ [(8, listO m), (10, XN tBmp m), (11, bmpO 1 r)] ++ hadB m
  | .k1 m => base k (.ptr 10 0) y ++ [(8, listO m), (10, XN tTk m), (11, tkO 163 .nilSlice 0 0 0)] ++ hadB m
  | .k2 m j => base k (.ptr 10 0) y ++ [(8, listO m), (10, XN tTk m), (11, tkO 174 (.slice 14 0 4 4) (j / 10) (j % 10) 4), (14, .cells false (ownRow ((j + 9) / 10) 4))] ++ hadB m
  | .e0 m => base k (.ptr 10 0) y ++ [(8, listO m), (10, XE m), (11, ldO 1 0), (16, .cells false R40)] ++ hadB m
  | .f1 i => base k (.ptr 10 0) y ++ fB0 n i ++ [(11, freeO (sl i) hdrV 1), (17, hdrO (sl i) 0 false), (18, clO)]
  | .f2 i => base k (.ptr 10 0) y ++ fB0 n i ++ [(11, freeO (sl i) hdrV 1), (17, hdrO (sl i) 0 true), (18, clO)]
  | .f3 i => base k (.ptr 10 0) y ++ fB0 n i ++ [(11, freeO (sl i) hdrV 2), (17, hdrO (sl i) 1 true), (18, clO)]
  | .f4 i => base k (.ptr 10 0) y ++ fB0 n i ++ [(11, freeO (sl i) pshV 1), (17, pshO 1 0 (sl i))]
  | .f5 i w => base k (.ptr 10 0) y ++ fB0 n i ++ [(11, freeO (sl i) pshV 1), (17, pshO 2 w (sl i))]
  | .f6 i w => base k (.ptr 10 0) y ++ fB0 n i ++ [(11, freeO (sl i) pshV 1), (17, pshO 3 w (sl i))]
  | .dn m => base k (.ptr 10 0) y ++ dO m
theorem load_ms (M : PM) (a : A3) : (M.load a).ms = M.ms := rfl
/-- What may lie beside. -/
def XOk (κ : Nat → Nat) (L : List Nat) (b : Nat) (o : AObj) : Prop := b < 40 ∧ κ b = b ∧ o.names (fun c => Nat.blt c 40 && Nat.beq (κ c) c) = true ∧ b ∉ L
theorem eachX_app {f : Nat → AObj → Prop} : ∀ {a b : List (Nat × AObj)}, eachX f a → eachX f b → eachX f (a ++ b)
  | [], _, _, h => h
  | _ :: _, _, h, h2 => ⟨h.1, eachX_app h.2 h2⟩
theorem got_ok {κ : Nat → Nat} {L : List Nat} (i : Nat) (h : κ 13 = 13) (hL : 13 ∉ L) : eachX (XOk κ L) (gotB i) := by
  cases i with
  | zero => trivial
  | succ i => exact ⟨⟨show 13 < 40 by decide, h, ents_names _ _, hL⟩, trivial⟩
theorem had_ok {κ : Nat → Nat} {L : List Nat} (i : Nat) (h : κ 12 = 12 ∧ κ 13 = 13) (hL : 12 ∉ L ∧ 13 ∉ L) : eachX (XOk κ L) (hadB i) := by
  cases i with
  | zero => trivial
  | succ i => exact ⟨⟨show 12 < 40 by decide, h.1, had_names _ _, hL.1⟩, ⟨show 13 < 40 by decide, h.2, ents_names _ _, hL.2⟩, trivial⟩
theorem lift {f : FuncId} {args : List AV} {v : AV} {bs bs' ext b1 b2 : List (Nat × AObj)} {κ : Nat → Nat} (h : StepF Tryz.prog Fz0 40 f args v bs bs' κ) (hz : κ 0 = 0) (he : eachX (XOk κ (bs.map (·.1))) ext) (h1 : ∀ x ∈ bs ++ ext, x ∈ b1) (h2 : ∀ x ∈ b2, x ∈ bs' ++ ext) : StepF Tryz.prog Fz0 40 f args v b1 b2 κ :=
  (h.frame ext (fun x hx => ⟨by
    simp only [Fz0, List.mem_cons, List.not_mem_nil, or_false] at hx
    subst hx
    decide, κ_z hz x hx⟩) he).use h1 h2
/-- What a step does not move: the names below 10, and those of the other one's. -/
def KOk (κ : Nat → Nat) : Prop := (∀ b, b < 10 → κ b = b) ∧ (∀ b, 30 ≤ b → b < 40 → κ b = b)
theorem kok {κ : Nat → Nat} (h : (κ 0 = 0 ∧ κ 1 = 1 ∧ κ 2 = 2 ∧ κ 3 = 3 ∧ κ 4 = 4 ∧ κ 5 = 5 ∧ κ 6 = 6 ∧ κ 7 = 7 ∧ κ 8 = 8 ∧ κ 9 = 9) ∧ (κ 30 = 30 ∧ κ 31 = 31 ∧ κ 32 = 32 ∧ κ 33 = 33 ∧ κ 34 = 34 ∧ κ 35 = 35 ∧ κ 36 = 36 ∧ κ 37 = 37 ∧ κ 38 = 38 ∧ κ 39 = 39)) : KOk κ := by
  obtain ⟨⟨h0, h1, h2, h3, h4, h5, h6, h7, h8, h9⟩, g0, g1, g2, g3, g4, g5, g6, g7, g8, g9⟩ := h
  refine ⟨fun b hb => ?_, fun b hb hb2 => ?_⟩
  · have : b = 0 ∨ b = 1 ∨ b = 2 ∨ b = 3 ∨ b = 4 ∨ b = 5 ∨ b = 6 ∨ b = 7 ∨ b = 8 ∨ b = 9 := by omega
    rcases this with rfl | rfl | rfl | rfl | rfl | rfl | rfl | rfl | rfl | rfl <;> assumption
  · have : b = 30 ∨ b = 31 ∨ b = 32 ∨ b = 33 ∨ b = 34 ∨ b = 35 ∨ b = 36 ∨ b = 37 ∨ b = 38 ∨ b = 39 := by omega
    rcases this with rfl | rfl | rfl | rfl | rfl | rfl | rfl | rfl | rfl | rfl <;> assumption
theorem d_run (m : Nat) (M0 : PM) (O0 : AObj) (sn gs fr : AV) : runX Tryz.prog none_ 80 41 (.call 41 [.ptr 10 0, .ptr 4 0] (canF [(4, .cells false (M0.C (.map 5))), (5, O0), (10, scanO .nilIface 2 m sn gs fr)] [(0, wf)] 4 40)) [] = some ({ e := AExit.ret, ts := [AV.bool true], s := { h := { bs := [(4, AObj.cells false [AV.map 5, AV.int IntKind.i64 M0.st, AV.int IntKind.u8 M0.kd, AV.int IntKind.u8 M0.4.fst, AV.int IntKind.i64 M0.a.2.fst, AV.int IntKind.i64 M0.a.2.snd, AV.int IntKind.u64 (Int.ofNat M0.was), AV.int IntKind.u64 (Int.ofNat M0.is), AV.bool M0.dn]), (5, O0), (10, AObj.cells false [AV.ptr 7 0, AV.int IntKind.u32 (Int.ofNat 9), AV.nilIface, AV.int IntKind.u8 (Int.ofNat 2), AV.int IntKind.i64 (Int.ofNat m), sn, AV.int IntKind.u64 (Int.ofNat 0), gs, fr]), (0, AObj.cells true [AV.int IntKind.u64 (Int.ofNat 0), AV.int IntKind.u64 (Int.ofNat 16), AV.int IntKind.u64 (Int.ofNat 16), AV.int IntKind.u64 (Int.ofNat 32), AV.int IntKind.u64 (Int.ofNat 16), AV.int IntKind.u64 (Int.ofNat 48), AV.int IntKind.u64 (Int.ofNat 0), AV.int IntKind.u64 (Int.ofNat 3), AV.int IntKind.u64 (Int.ofNat 3), AV.int IntKind.u64 (Int.ofNat 32), AV.int IntKind.u64 (Int.ofNat 0), AV.int IntKind.u64 (Int.ofNat 3), AV.int IntKind.u64 (Int.ofNat 3), AV.int IntKind.u64 (Int.ofNat 3), AV.int IntKind.u64 (Int.ofNat 6), AV.int IntKind.u64 (Int.ofNat 3), AV.int IntKind.u64 (Int.ofNat 16), AV.int IntKind.u64 (Int.ofNat 48), AV.int IntKind.u64 (Int.ofNat 0), AV.int IntKind.u64 (Int.ofNat 32), AV.int IntKind.u64 (Int.ofNat 32), AV.int IntKind.u64 (Int.ofNat 1)])], len := 4, esc := none, wr := [] }, nx := 40 } }, [], []) := by kernel_rfl
theorem dn0_at {M : PM} : StepF Tryz.prog Fz0 40 41 [.ptr 10 0, .ptr 4 0] (.bool true) (mem M ++ [(10, scanO .nilIface 2 0 (.slice 16 0 4 4) .nilSlice .nilSlice)]) (mem M ++ [(10, scanO .nilIface 2 0 (.slice 16 0 4 4) .nilSlice .nilSlice)]) id := by
  have hr := runX_sound mixed none_sound (d_run 0 M (mapO M.ms) (.slice 16 0 4 4) .nilSlice .nilSlice) trivial
  exact step_mk hr [] (kan ⟨⟨show 4 < 40 by decide, rfl, rfl, rfl⟩, ⟨show 5 < 40 by decide, rfl, mapO_names _ _, rfl⟩, ⟨show 10 < 40 by decide, rfl, rfl, rfl⟩, trivial⟩ (show ([4, 5, 10] : List Nat).Nodup by decide) (show 0 ∉ ([4, 5, 10] : List Nat) by decide)) List.nodup_nil (fun _ h => by cases h) (fun _ _ => rfl) (fun _ _ => rfl) ⟨⟨.inl (show 4 ∈ ([4, 5, 10] : List Nat) by decide), rfl⟩, ⟨.inl (show 5 ∈ ([4, 5, 10] : List Nat) by decide), by rw [mapO_ren]; rfl⟩, ⟨.inl (show 10 ∈ ([4, 5, 10] : List Nat) by decide), rfl⟩, trivial⟩ (fun _ _ _ _ h => h) rfl ⟨⟨.inl rfl, rfl⟩, ⟨.inl rfl, mapO_names _ _⟩, ⟨.inl rfl, rfl⟩, trivial⟩ rfl
theorem dn1_at {M : PM} {m : Nat} : StepF Tryz.prog Fz0 40 41 [.ptr 10 0, .ptr 4 0] (.bool true) (mem M ++ [(10, scanO .nilIface 2 (m + 1) (.slice 16 0 4 4) (.slice 15 (6 * (m + 1)) 0 0) (.osl 19 0 (m + 1) 3))]) (mem M ++ [(10, scanO .nilIface 2 (m + 1) (.slice 16 0 4 4) (.slice 15 (6 * (m + 1)) 0 0) (.osl 19 0 (m + 1) 3))]) id := by
  have hr := runX_sound mixed none_sound (d_run (m + 1) M (mapO M.ms) (.slice 16 0 4 4) (.slice 15 (6 * (m + 1)) 0 0) (.osl 19 0 (m + 1) 3)) trivial
  exact step_mk hr [] (kan ⟨⟨show 4 < 40 by decide, rfl, rfl, rfl⟩, ⟨show 5 < 40 by decide, rfl, mapO_names _ _, rfl⟩, ⟨show 10 < 40 by decide, rfl, rfl, rfl⟩, trivial⟩ (show ([4, 5, 10] : List Nat).Nodup by decide) (show 0 ∉ ([4, 5, 10] : List Nat) by decide)) List.nodup_nil (fun _ h => by cases h) (fun _ _ => rfl) (fun _ _ => rfl) ⟨⟨.inl (show 4 ∈ ([4, 5, 10] : List Nat) by decide), rfl⟩, ⟨.inl (show 5 ∈ ([4, 5, 10] : List Nat) by decide), by rw [mapO_ren]; rfl⟩, ⟨.inl (show 10 ∈ ([4, 5, 10] : List Nat) by decide), rfl⟩, trivial⟩ (fun _ _ _ _ h => h) rfl ⟨⟨.inl rfl, rfl⟩, ⟨.inl rfl, mapO_names _ _⟩, ⟨.inl rfl, rfl⟩, trivial⟩ rfl
inductive Nx (n hw : Nat) : LS → PM → LS → PM → Prop where
  | t1n (M : PM) (hd : Nat) (hL : Lt M) (h : 0 ≤ slI (getW M.ms aO)) : Nx n hw (.t1 hd) M (.t2 (getW M.ms aO)) (M.load aO)
  | t2y (M : PM) (hd : Nat) (hw2 : hd < 18446744073709551616) (hc : M.casd aO hd = true) (he : hd = hw) (hs : slI hd = sl 0) : Nx n hw (.t2 hd) M (.t3 0) (M.cas aO hd (hdN (-1) (tgN hd + 1)))
  | t2n (M : PM) (hd : Nat) (hw2 : hd < 18446744073709551616) (hc : M.casd aO hd = false) : Nx n hw (.t2 hd) M (.t1 hd) (M.cas aO hd (hdN (-1) (tgN hd + 1)))
  | t3 (M : PM) (i : Nat) (hL : Lt M) (h : hg (getW M.ms (aL (sl i) 0)) = 0) : Nx n hw (.t3 i) M (.t4 i) (M.load (aL (sl i) 0))
  | t4 (M : PM) (i : Nat) (h : getW M.ms (aL (sl i) 1) = 0) : Nx n hw (.t4 i) M (.t5 i) (M.load (aL (sl i) 1))
  | t5 (M : PM) (i : Nat) (h : getW M.ms (aL (sl i) 3) = 0) : Nx n hw (.t5 i) M (.t6 i) (M.load (aL (sl i) 3))
  | t6a (M : PM)  (h : getW M.ms (aL (sl 0) 4) = 0) : Nx n hw (.t6 0) M (.t7 0) (M.load (aL (sl 0) 4))
  | t6b (M : PM) (i : Nat) (hi : i < 8) (h : getW M.ms (aL (sl (i + 1)) 4) = 0) : Nx n hw (.t6 (i + 1)) M (.t7 (i + 1)) (M.load (aL (sl (i + 1)) 4))
  | t7n (M : PM) (i : Nat) (hL : Lt M) (hi : i < 8) (h : slI (getW M.ms (aL (sl i) 2)) = sl (i + 1)) : Nx n hw (.t7 i) M (.t3 (i + 1)) (M.load (aL (sl i) 2))
  | t1y (M : PM) (hd : Nat) (hL : Lt M) (h : slI (getW M.ms aO) < 0) : Nx n hw (.t1 hd) M (.s0 0) (M.load aO)
  | t7y (M : PM) (i : Nat) (hi : i + 1 = n) (hn : n ≤ 8) (h : getW M.ms (aL (sl i) 2) = 0) : Nx n hw (.t7 i) M (.s0 n) (M.load (aL (sl i) 2))
  | s0z (M : PM)  (h : getW M.ms aPh = 16) : Nx n hw (.s0 0) M (.a1 0) (M.load aPh)
  | s0s (M : PM) (m : Nat) (h : getW M.ms aPh = 16) : Nx n hw (.s0 (m + 1)) M (.a1 (m + 1)) (M.load aPh)
  | a1 (M : PM) (m : Nat)  : Nx n hw (.a1 m) M (.a2 m (getW M.ms aEp)) (M.load aEp)
  | a2 (M : PM) (m e : Nat) (h : getW M.ms aBl = 1) : Nx n hw (.a2 m e) M (.a3 m e 0) (M.load aBl)
  | a3n (M : PM) (m e i : Nat) (hi : i + 1 < 4) (h : getW M.ms (aTh (Int.ofNat i) 3) = 0) : Nx n hw (.a3 m e i) M (.a3 m e (i + 1)) (M.load (aTh (Int.ofNat i) 3))
  | a3y (M : PM) (m e : Nat) (h : getW M.ms (aTh (Int.ofNat 3) 3) = 0) : Nx n hw (.a3 m e 3) M (.a4 m e) (M.load (aTh (Int.ofNat 3) 3))
  | a4 (M : PM) (m e : Nat)  : Nx n hw (.a4 m e) M (.b1 m) (M.cas aEp e ((e + 1) % 18446744073709551616))
  | b1 (M : PM) (m : Nat)  : Nx n hw (.b1 m) M (.b2 m (getW M.ms aEra)) (M.load aEra)
  | b2 (M : PM) (m e : Nat)  : Nx n hw (.b2 m e) M (.k1 m) (M.cas aEra e ((e + 1) % 18446744073709551616))
  | k1 (M : PM) (m : Nat) (h : getW M.ms aBl = 1) : Nx n hw (.k1 m) M (.k2 m 0) (M.load aBl)
  | k2 (M : PM) (m j : Nat) (hj : j < 39) (h : getW M.ms (aTh (Int.ofNat (j / 10)) (Int.ofNat (j % 10))) = wd j) : Nx n hw (.k2 m j) M (.k2 m (j + 1)) (M.load (aTh (Int.ofNat (j / 10)) (Int.ofNat (j % 10))))
  | k2e (M : PM) (m : Nat) (h : getW M.ms (aTh (Int.ofNat 3) (Int.ofNat 9)) = 0) : Nx n hw (.k2 m 39) M (.e0 m) (M.load (aTh (Int.ofNat 3) (Int.ofNat 9)))
  | e0 (M : PM)   : Nx n hw (.e0 0) M (.dn 0) (M.load aEp)
  | en (M : PM)  (h0 : 0 < n) (hn : n ≤ 8) : Nx n hw (.e0 n) M (.f1 0) (M.load aEp)
  | f1 (M : PM) (i : Nat) (hL : Lt M) (h : hg (getW M.ms (aL (sl i) 0)) = 0) : Nx n hw (.f1 i) M (.f2 i) (M.load (aL (sl i) 0))
  | f2 (M : PM) (i : Nat)  : Nx n hw (.f2 i) M (.f3 i) (M.store (aL (sl i) 0) (mkw 0 1))
  | f3 (M : PM) (i : Nat) (hi : i < 8) (h : getW M.ms aS1 ≠ 2) : Nx n hw (.f3 i) M (.f4 i) (M.load aS1)
  | f4 (M : PM) (i : Nat) (hL : Lt M) : Nx n hw (.f4 i) M (.f5 i (getW M.ms aF)) (M.load aF)
  | f5 (M : PM) (i w : Nat) (hw2 : w < 18446744073709551616) : Nx n hw (.f5 i w) M (.f6 i w) (M.store (aL (sl i) 2) (hdN (slI w) 0))
  | f6 (M : PM) (i w : Nat) (hi : i + 1 < n) (hn : n ≤ 8) (hw2 : w < 18446744073709551616) (hc : M.casd aF w = true) : Nx n hw (.f6 i w) M (.f1 (i + 1)) (M.cas aF w (hdN (sl i) (tgN w + 1)))
  | f6e (M : PM) (i w : Nat) (hi : i + 1 = n) (hn : n ≤ 8) (hw2 : w < 18446744073709551616) (hc : M.casd aF w = true) : Nx n hw (.f6 i w) M (.dn n) (M.cas aF w (hdN (sl i) (tgN w + 1)))
  | dn0 (M : PM)   : Nx n hw (.dn 0) M (.dn 0) (M)
  | dn1 (M : PM) (m : Nat)  : Nx n hw (.dn (m + 1)) M (.dn (m + 1)) (M)
theorem sl_8 {i : Nat} (h : i < 8) : 8 ≤ sl i ∧ sl i < 16 := by simp only [sl, Int.ofNat_eq_natCast]; omega
theorem x_t1n {n hw : Nat} {M : PM} (k y : Bool) {hd : Nat} (hL : Lt M) (h : 0 ≤ slI (getW M.ms aO)) : StepF Tryz.prog Fz0 40 13 [.ptr 6 (bif k then 3 else 0), .ptr 4 0] (.tuple []) (mem M ++ own n hw k y (.t1 hd)) (mem (M.load aO) ++ own n hw k y (.t2 (getW M.ms aO))) id := by
  exact wrapK (y := yv y) (lift (ext := [(6, twoO k .nilPtr (yv y)), (7, guardO (bif k then 1 else 0)), (8, listO 0)]) (k1n_at (hd := hd) hL h) rfl (⟨⟨show 6 < 40 by decide, rfl, by cases k <;> cases y <;> rfl, show 6 ∉ ([4, 5, 9] : List Nat) by decide⟩, ⟨show 7 < 40 by decide, rfl, rfl, show 7 ∉ ([4, 5, 9] : List Nat) by decide⟩, ⟨show 8 < 40 by decide, rfl, by first | rfl | (cases m <;> rfl), show 8 ∉ ([4, 5, 9] : List Nat) by decide⟩, trivial⟩) (by
    intro x hx
    simp only [own, base, mem, List.mem_append, List.mem_cons, List.not_mem_nil, or_false] at hx ⊢
    grind) (by
    intro x hx
    simp only [load_ms, own, base, mem, List.mem_append, List.mem_cons, List.not_mem_nil, or_false] at hx ⊢
    grind)) (by simp [own, base])
theorem x_t2y {n hw : Nat} {M : PM} (k y : Bool) {hd : Nat} (hw2 : hd < 18446744073709551616) (hc : M.casd aO hd = true) (he : hd = hw) (hs : slI hd = sl 0) : StepF Tryz.prog Fz0 40 13 [.ptr 6 (bif k then 3 else 0), .ptr 4 0] (.tuple []) (mem M ++ own n hw k y (.t2 hd)) (mem (M.cas aO hd (hdN (-1) (tgN hd + 1))) ++ own n hw k y (.t3 0)) id := by
  subst he
  have hb := k2y_at (M := M) hw2 hc
  rw [hs] at hb
  exact wrapK (y := yv y) (lift (ext := [(6, twoO k .nilPtr (yv y)), (7, guardO (bif k then 1 else 0)), (8, listO 0)]) (hb) rfl (⟨⟨show 6 < 40 by decide, rfl, by cases k <;> cases y <;> rfl, show 6 ∉ ([4, 5, 9] : List Nat) by decide⟩, ⟨show 7 < 40 by decide, rfl, rfl, show 7 ∉ ([4, 5, 9] : List Nat) by decide⟩, ⟨show 8 < 40 by decide, rfl, by first | rfl | (cases m <;> rfl), show 8 ∉ ([4, 5, 9] : List Nat) by decide⟩, trivial⟩) (by
    intro x hx
    simp only [own, base, mem, List.mem_append, List.mem_cons, List.not_mem_nil, or_false] at hx ⊢
    grind) (by
    intro x hx
    simp only [own, base, mem, List.mem_append, List.mem_cons, List.not_mem_nil, or_false, gotB, gotV, esOf] at hx ⊢
    grind)) (by simp [own, base])
theorem x_t2n {n hw : Nat} {M : PM} (k y : Bool) {hd : Nat} (hw2 : hd < 18446744073709551616) (hc : M.casd aO hd = false) : StepF Tryz.prog Fz0 40 13 [.ptr 6 (bif k then 3 else 0), .ptr 4 0] (.tuple []) (mem M ++ own n hw k y (.t2 hd)) (mem (M.cas aO hd (hdN (-1) (tgN hd + 1))) ++ own n hw k y (.t1 hd)) id := by
  exact wrapK (y := yv y) (lift (ext := [(6, twoO k .nilPtr (yv y)), (7, guardO (bif k then 1 else 0)), (8, listO 0)]) (k2n_at hw2 hc) rfl (⟨⟨show 6 < 40 by decide, rfl, by cases k <;> cases y <;> rfl, show 6 ∉ ([4, 5, 9] : List Nat) by decide⟩, ⟨show 7 < 40 by decide, rfl, rfl, show 7 ∉ ([4, 5, 9] : List Nat) by decide⟩, ⟨show 8 < 40 by decide, rfl, by first | rfl | (cases m <;> rfl), show 8 ∉ ([4, 5, 9] : List Nat) by decide⟩, trivial⟩) (by
    intro x hx
    simp only [own, base, mem, List.mem_append, List.mem_cons, List.not_mem_nil, or_false] at hx ⊢
    grind) (by
    intro x hx
    simp only [own, base, mem, List.mem_append, List.mem_cons, List.not_mem_nil, or_false] at hx ⊢
    grind)) (by simp [own, base])
theorem x_t3 {n hw : Nat} {M : PM} (k y : Bool) {i : Nat} (hL : Lt M) (h : hg (getW M.ms (aL (sl i) 0)) = 0) : StepF Tryz.prog Fz0 40 13 [.ptr 6 (bif k then 3 else 0), .ptr 4 0] (.tuple []) (mem M ++ own n hw k y (.t3 i)) (mem (M.load (aL (sl i) 0)) ++ own n hw k y (.t4 i)) id := by
  exact wrapK (y := yv y) (lift (ext := ([(6, twoO k .nilPtr (yv y)), (7, guardO (bif k then 1 else 0)), (8, listO 0)] ++ gotB i)) (k3_at (hd := hw) (i := i) (es := esOf i) hL h) rfl (eachX_app ⟨⟨show 6 < 40 by decide, rfl, by cases k <;> cases y <;> rfl, show 6 ∉ ([4, 5, 9] : List Nat) by decide⟩, ⟨show 7 < 40 by decide, rfl, rfl, show 7 ∉ ([4, 5, 9] : List Nat) by decide⟩, ⟨show 8 < 40 by decide, rfl, by first | rfl | (cases m <;> rfl), show 8 ∉ ([4, 5, 9] : List Nat) by decide⟩, trivial⟩ (got_ok _ rfl (show 13 ∉ ([4, 5, 9] : List Nat) by decide))) (by
    intro x hx
    simp only [own, base, mem, List.mem_append, List.mem_cons, List.not_mem_nil, or_false] at hx ⊢
    grind) (by
    intro x hx
    simp only [load_ms, own, base, mem, List.mem_append, List.mem_cons, List.not_mem_nil, or_false] at hx ⊢
    grind)) (by simp [own, base])
theorem x_t4 {n hw : Nat} {M : PM} (k y : Bool) {i : Nat} (h : getW M.ms (aL (sl i) 1) = 0) : StepF Tryz.prog Fz0 40 13 [.ptr 6 (bif k then 3 else 0), .ptr 4 0] (.tuple []) (mem M ++ own n hw k y (.t4 i)) (mem (M.load (aL (sl i) 1)) ++ own n hw k y (.t5 i)) id := by
  exact wrapK (y := yv y) (lift (ext := ([(6, twoO k .nilPtr (yv y)), (7, guardO (bif k then 1 else 0)), (8, listO 0)] ++ gotB i)) (k4_at (hd := hw) (i := i) (_es := 0) h) rfl (eachX_app ⟨⟨show 6 < 40 by decide, rfl, by cases k <;> cases y <;> rfl, show 6 ∉ ([4, 5, 9] : List Nat) by decide⟩, ⟨show 7 < 40 by decide, rfl, rfl, show 7 ∉ ([4, 5, 9] : List Nat) by decide⟩, ⟨show 8 < 40 by decide, rfl, by first | rfl | (cases m <;> rfl), show 8 ∉ ([4, 5, 9] : List Nat) by decide⟩, trivial⟩ (got_ok _ rfl (show 13 ∉ ([4, 5, 9] : List Nat) by decide))) (by
    intro x hx
    simp only [own, base, mem, List.mem_append, List.mem_cons, List.not_mem_nil, or_false] at hx ⊢
    grind) (by
    intro x hx
    simp only [load_ms, own, base, mem, List.mem_append, List.mem_cons, List.not_mem_nil, or_false] at hx ⊢
    grind)) (by simp [own, base])
theorem x_t5 {n hw : Nat} {M : PM} (k y : Bool) {i : Nat} (h : getW M.ms (aL (sl i) 3) = 0) : StepF Tryz.prog Fz0 40 13 [.ptr 6 (bif k then 3 else 0), .ptr 4 0] (.tuple []) (mem M ++ own n hw k y (.t5 i)) (mem (M.load (aL (sl i) 3)) ++ own n hw k y (.t6 i)) id := by
  exact wrapK (y := yv y) (lift (ext := ([(6, twoO k .nilPtr (yv y)), (7, guardO (bif k then 1 else 0)), (8, listO 0)] ++ gotB i)) (k5_at (hd := hw) (i := i) (_es := 0) h) rfl (eachX_app ⟨⟨show 6 < 40 by decide, rfl, by cases k <;> cases y <;> rfl, show 6 ∉ ([4, 5, 9] : List Nat) by decide⟩, ⟨show 7 < 40 by decide, rfl, rfl, show 7 ∉ ([4, 5, 9] : List Nat) by decide⟩, ⟨show 8 < 40 by decide, rfl, by first | rfl | (cases m <;> rfl), show 8 ∉ ([4, 5, 9] : List Nat) by decide⟩, trivial⟩ (got_ok _ rfl (show 13 ∉ ([4, 5, 9] : List Nat) by decide))) (by
    intro x hx
    simp only [own, base, mem, List.mem_append, List.mem_cons, List.not_mem_nil, or_false] at hx ⊢
    grind) (by
    intro x hx
    simp only [load_ms, own, base, mem, List.mem_append, List.mem_cons, List.not_mem_nil, or_false] at hx ⊢
    grind)) (by simp [own, base])
theorem x_t6a {n hw : Nat} {M : PM} (k y : Bool)  (h : getW M.ms (aL (sl 0) 4) = 0) : StepF Tryz.prog Fz0 40 13 [.ptr 6 (bif k then 3 else 0), .ptr 4 0] (.tuple []) (mem M ++ own n hw k y (.t6 0)) (mem (M.load (aL (sl 0) 4)) ++ own n hw k y (.t7 0)) (κ1 13 42) := by
  exact wrapK (y := yv y) (lift (ext := [(6, twoO k .nilPtr (yv y)), (7, guardO (bif k then 1 else 0)), (8, listO 0)]) (k6a_at (hd := hw) h) rfl (⟨⟨show 6 < 40 by decide, rfl, by cases k <;> cases y <;> rfl, show 6 ∉ ([4, 5, 9] : List Nat) by decide⟩, ⟨show 7 < 40 by decide, rfl, rfl, show 7 ∉ ([4, 5, 9] : List Nat) by decide⟩, ⟨show 8 < 40 by decide, rfl, by first | rfl | (cases m <;> rfl), show 8 ∉ ([4, 5, 9] : List Nat) by decide⟩, trivial⟩) (by
    intro x hx
    simp only [own, base, mem, List.mem_append, List.mem_cons, List.not_mem_nil, or_false, gotB, gotV] at hx ⊢
    grind) (by
    intro x hx
    simp only [load_ms, own, base, mem, List.mem_append, List.mem_cons, List.not_mem_nil, or_false, gotB, gotV] at hx ⊢
    grind)) (by simp [own, base])
theorem x_t6b {n hw : Nat} {M : PM} (k y : Bool) {i : Nat} (hi : i < 8) (h : getW M.ms (aL (sl (i + 1)) 4) = 0) : StepF Tryz.prog Fz0 40 13 [.ptr 6 (bif k then 3 else 0), .ptr 4 0] (.tuple []) (mem M ++ own n hw k y (.t6 (i + 1))) (mem (M.load (aL (sl (i + 1)) 4)) ++ own n hw k y (.t7 (i + 1))) (κ1 13 42) := by
  exact wrapK (y := yv y) (lift (ext := [(6, twoO k .nilPtr (yv y)), (7, guardO (bif k then 1 else 0)), (8, listO 0)]) (k6b_at (hd := hw) hi h) rfl (⟨⟨show 6 < 40 by decide, rfl, by cases k <;> cases y <;> rfl, show 6 ∉ ([4, 5, 9, 13] : List Nat) by decide⟩, ⟨show 7 < 40 by decide, rfl, rfl, show 7 ∉ ([4, 5, 9, 13] : List Nat) by decide⟩, ⟨show 8 < 40 by decide, rfl, by first | rfl | (cases m <;> rfl), show 8 ∉ ([4, 5, 9, 13] : List Nat) by decide⟩, trivial⟩) (by
    intro x hx
    simp only [own, base, mem, List.mem_append, List.mem_cons, List.not_mem_nil, or_false, gotB, gotV] at hx ⊢
    grind) (by
    intro x hx
    simp only [load_ms, own, base, mem, List.mem_append, List.mem_cons, List.not_mem_nil, or_false, gotB, gotV] at hx ⊢
    grind)) (by simp [own, base])
theorem x_t7n {n hw : Nat} {M : PM} (k y : Bool) {i : Nat} (hL : Lt M) (hi : i < 8) (h : slI (getW M.ms (aL (sl i) 2)) = sl (i + 1)) : StepF Tryz.prog Fz0 40 13 [.ptr 6 (bif k then 3 else 0), .ptr 4 0] (.tuple []) (mem M ++ own n hw k y (.t7 i)) (mem (M.load (aL (sl i) 2)) ++ own n hw k y (.t3 (i + 1))) id := by
  exact wrapK (y := yv y) (lift (ext := [(6, twoO k .nilPtr (yv y)), (7, guardO (bif k then 1 else 0)), (8, listO 0)]) (k7n_at (hd := hw) hL hi h) rfl (⟨⟨show 6 < 40 by decide, rfl, by cases k <;> cases y <;> rfl, show 6 ∉ ([4, 5, 9, 13] : List Nat) by decide⟩, ⟨show 7 < 40 by decide, rfl, rfl, show 7 ∉ ([4, 5, 9, 13] : List Nat) by decide⟩, ⟨show 8 < 40 by decide, rfl, by first | rfl | (cases m <;> rfl), show 8 ∉ ([4, 5, 9, 13] : List Nat) by decide⟩, trivial⟩) (by
    intro x hx
    simp only [own, base, mem, List.mem_append, List.mem_cons, List.not_mem_nil, or_false, gotB, gotV] at hx ⊢
    grind) (by
    intro x hx
    simp only [load_ms, own, base, mem, List.mem_append, List.mem_cons, List.not_mem_nil, or_false, gotB, gotV, esOf] at hx ⊢
    grind)) (by simp [own, base])
theorem x_t1ya {n hw : Nat} {M : PM} (y : Bool) {hd : Nat} (hL : Lt M) (h : slI (getW M.ms aO) < 0) : StepF Tryz.prog Fz0 40 13 [.ptr 6 (bif false then 3 else 0), .ptr 4 0] (.tuple []) (mem M ++ own n hw false y (.t1 hd)) (mem (M.load aO) ++ own n hw false y (.s0 0)) (κ2 10 42 11 41) := by
  exact lift (ext := []) (t1a_at (th := 0) (hd := hd) y hL h) rfl trivial (by
    intro x hx
    simp only [own, base, memc, mem, List.mem_append, List.mem_cons, List.not_mem_nil, or_false, _root_.cond_false] at hx ⊢
    grind) (by
    intro x hx
    simp only [load_ms, own, base, memc, mem, List.mem_append, List.mem_cons, List.not_mem_nil, or_false, hadB, _root_.cond_false] at hx ⊢
    grind)
theorem x_t1yb {n hw : Nat} {M : PM} (y : Bool) {hd : Nat} (hL : Lt M) (h : slI (getW M.ms aO) < 0) : StepF Tryz.prog Fz0 40 13 [.ptr 6 (bif true then 3 else 0), .ptr 4 0] (.tuple []) (mem M ++ own n hw true y (.t1 hd)) (mem (M.load aO) ++ own n hw true y (.s0 0)) (κ2 10 42 11 41) := by
  exact lift (ext := []) (t1b_at (th := 1) (hd := hd) y hL h) rfl trivial (by
    intro x hx
    simp only [own, base, memc, mem, List.mem_append, List.mem_cons, List.not_mem_nil, or_false, _root_.cond_true] at hx ⊢
    grind) (by
    intro x hx
    simp only [load_ms, own, base, memc, mem, List.mem_append, List.mem_cons, List.not_mem_nil, or_false, hadB, _root_.cond_true] at hx ⊢
    grind)
theorem x_t1y {n hw : Nat} {M : PM} (k y : Bool) {hd : Nat} (hL : Lt M) (h : slI (getW M.ms aO) < 0) : StepF Tryz.prog Fz0 40 13 [.ptr 6 (bif k then 3 else 0), .ptr 4 0] (.tuple []) (mem M ++ own n hw k y (.t1 hd)) (mem (M.load aO) ++ own n hw k y (.s0 0)) (κ2 10 42 11 41) := by
  cases k
  · exact x_t1ya y hL h
  · exact x_t1yb y hL h
theorem x_t7y {n hw : Nat} {M : PM} (k y : Bool) {i : Nat} (hi : i + 1 = n) (hn : n ≤ 8) (h : getW M.ms (aL (sl i) 2) = 0) : StepF Tryz.prog Fz0 40 13 [.ptr 6 (bif k then 3 else 0), .ptr 4 0] (.tuple []) (mem M ++ own n hw k y (.t7 i)) (mem (M.load (aL (sl i) 2)) ++ own n hw k y (.s0 n)) (κ6 n) := by
  subst hi
  exact lift (ext := []) (k7_at (th := bif k then 1 else 0) (hd := hw) k y (i + 1) (by omega) hn h) rfl trivial (by
    intro x hx
    simp only [own, base, kB, memc, mem, List.mem_append, List.mem_cons, List.not_mem_nil, or_false, gotB, gotV, Nat.add_sub_cancel] at hx ⊢
    grind) (by
    intro x hx
    simp only [load_ms, own, base, kA, memc, mem, List.mem_append, List.mem_cons, List.not_mem_nil, or_false, hadB, Nat.add_sub_cancel] at hx ⊢
    grind)
theorem x_s0z {n hw : Nat} {M : PM} (k y : Bool)  (h : getW M.ms aPh = 16) : StepF Tryz.prog Fz0 40 13 [.ptr 6 (bif k then 3 else 0), .ptr 4 0] (.tuple []) (mem M ++ own n hw k y (.s0 0)) (mem (M.load aPh) ++ own n hw k y (.a1 0)) (κ1 11 42) := by
  exact wrapS (y := yv y) (lift (ext := [(6, twoO k (.ptr 10 0) (yv y))]) (s0_atz (_m := 0) (th := bif k then 1 else 0) h) rfl (⟨⟨show 6 < 40 by decide, rfl, by cases k <;> cases y <;> rfl, show 6 ∉ ([4, 5, 7, 8, 10, 11] : List Nat) by decide⟩, trivial⟩) (by
    intro x hx
    simp only [own, base, mem, List.mem_append, List.mem_cons, List.not_mem_nil, or_false, hadB] at hx ⊢
    grind) (by
    intro x hx
    simp only [load_ms, own, base, mem, List.mem_append, List.mem_cons, List.not_mem_nil, or_false, hadB] at hx ⊢
    grind)) (by simp [own, base])
theorem x_s0s {n hw : Nat} {M : PM} (k y : Bool) {m : Nat} (h : getW M.ms aPh = 16) : StepF Tryz.prog Fz0 40 13 [.ptr 6 (bif k then 3 else 0), .ptr 4 0] (.tuple []) (mem M ++ own n hw k y (.s0 (m + 1))) (mem (M.load aPh) ++ own n hw k y (.a1 (m + 1))) (κ1 11 42) := by
  exact wrapS (y := yv y) (lift (ext := ([(6, twoO k (.ptr 10 0) (yv y))] ++ hadB (m + 1))) (s0_ats (m := m) (th := bif k then 1 else 0) h) rfl (eachX_app ⟨⟨show 6 < 40 by decide, rfl, by cases k <;> cases y <;> rfl, show 6 ∉ ([4, 5, 7, 8, 10, 11] : List Nat) by decide⟩, trivial⟩ (had_ok _ ⟨rfl, rfl⟩ ⟨show 12 ∉ ([4, 5, 7, 8, 10, 11] : List Nat) by decide, show 13 ∉ ([4, 5, 7, 8, 10, 11] : List Nat) by decide⟩)) (by
    intro x hx
    simp only [own, base, mem, List.mem_append, List.mem_cons, List.not_mem_nil, or_false] at hx ⊢
    grind) (by
    intro x hx
    simp only [load_ms, own, base, mem, List.mem_append, List.mem_cons, List.not_mem_nil, or_false] at hx ⊢
    grind)) (by simp [own, base])
theorem x_a1 {n hw : Nat} {M : PM} (k y : Bool) {m : Nat}  : StepF Tryz.prog Fz0 40 13 [.ptr 6 (bif k then 3 else 0), .ptr 4 0] (.tuple []) (mem M ++ own n hw k y (.a1 m)) (mem (M.load aEp) ++ own n hw k y (.a2 m (getW M.ms aEp))) id := by
  exact wrapS (y := yv y) (lift (ext := ([(6, twoO k (.ptr 10 0) (yv y)), (7, guardO (bif k then 1 else 0)), (8, listO m)] ++ hadB m)) (a1_at (M := M) (m := m)) rfl (eachX_app ⟨⟨show 6 < 40 by decide, rfl, by cases k <;> cases y <;> rfl, show 6 ∉ ([4, 5, 10, 11] : List Nat) by decide⟩, ⟨show 7 < 40 by decide, rfl, rfl, show 7 ∉ ([4, 5, 10, 11] : List Nat) by decide⟩, ⟨show 8 < 40 by decide, rfl, by first | rfl | (cases m <;> rfl), show 8 ∉ ([4, 5, 10, 11] : List Nat) by decide⟩, trivial⟩ (had_ok _ ⟨rfl, rfl⟩ ⟨show 12 ∉ ([4, 5, 10, 11] : List Nat) by decide, show 13 ∉ ([4, 5, 10, 11] : List Nat) by decide⟩)) (by
    intro x hx
    simp only [own, base, mem, List.mem_append, List.mem_cons, List.not_mem_nil, or_false] at hx ⊢
    grind) (by
    intro x hx
    simp only [load_ms, own, base, mem, List.mem_append, List.mem_cons, List.not_mem_nil, or_false] at hx ⊢
    grind)) (by simp [own, base])
theorem x_a2 {n hw : Nat} {M : PM} (k y : Bool) {m e : Nat} (h : getW M.ms aBl = 1) : StepF Tryz.prog Fz0 40 13 [.ptr 6 (bif k then 3 else 0), .ptr 4 0] (.tuple []) (mem M ++ own n hw k y (.a2 m e)) (mem (M.load aBl) ++ own n hw k y (.a3 m e 0)) id := by
  exact wrapS (y := yv y) (lift (ext := ([(6, twoO k (.ptr 10 0) (yv y)), (7, guardO (bif k then 1 else 0)), (8, listO m)] ++ hadB m)) (a2_at (m := m) (e := e) h) rfl (eachX_app ⟨⟨show 6 < 40 by decide, rfl, by cases k <;> cases y <;> rfl, show 6 ∉ ([4, 5, 10, 11] : List Nat) by decide⟩, ⟨show 7 < 40 by decide, rfl, rfl, show 7 ∉ ([4, 5, 10, 11] : List Nat) by decide⟩, ⟨show 8 < 40 by decide, rfl, by first | rfl | (cases m <;> rfl), show 8 ∉ ([4, 5, 10, 11] : List Nat) by decide⟩, trivial⟩ (had_ok _ ⟨rfl, rfl⟩ ⟨show 12 ∉ ([4, 5, 10, 11] : List Nat) by decide, show 13 ∉ ([4, 5, 10, 11] : List Nat) by decide⟩)) (by
    intro x hx
    simp only [own, base, mem, List.mem_append, List.mem_cons, List.not_mem_nil, or_false] at hx ⊢
    grind) (by
    intro x hx
    simp only [load_ms, own, base, mem, List.mem_append, List.mem_cons, List.not_mem_nil, or_false] at hx ⊢
    grind)) (by simp [own, base])
theorem x_a3n {n hw : Nat} {M : PM} (k y : Bool) {m e i : Nat} (hi : i + 1 < 4) (h : getW M.ms (aTh (Int.ofNat i) 3) = 0) : StepF Tryz.prog Fz0 40 13 [.ptr 6 (bif k then 3 else 0), .ptr 4 0] (.tuple []) (mem M ++ own n hw k y (.a3 m e i)) (mem (M.load (aTh (Int.ofNat i) 3)) ++ own n hw k y (.a3 m e (i + 1))) id := by
  exact wrapS (y := yv y) (lift (ext := ([(6, twoO k (.ptr 10 0) (yv y)), (7, guardO (bif k then 1 else 0)), (8, listO m)] ++ hadB m)) (a3n_at (m := m) (e := e) hi h) rfl (eachX_app ⟨⟨show 6 < 40 by decide, rfl, by cases k <;> cases y <;> rfl, show 6 ∉ ([4, 5, 10, 11] : List Nat) by decide⟩, ⟨show 7 < 40 by decide, rfl, rfl, show 7 ∉ ([4, 5, 10, 11] : List Nat) by decide⟩, ⟨show 8 < 40 by decide, rfl, by first | rfl | (cases m <;> rfl), show 8 ∉ ([4, 5, 10, 11] : List Nat) by decide⟩, trivial⟩ (had_ok _ ⟨rfl, rfl⟩ ⟨show 12 ∉ ([4, 5, 10, 11] : List Nat) by decide, show 13 ∉ ([4, 5, 10, 11] : List Nat) by decide⟩)) (by
    intro x hx
    simp only [own, base, mem, List.mem_append, List.mem_cons, List.not_mem_nil, or_false] at hx ⊢
    grind) (by
    intro x hx
    simp only [load_ms, own, base, mem, List.mem_append, List.mem_cons, List.not_mem_nil, or_false] at hx ⊢
    grind)) (by simp [own, base])
theorem x_a3y {n hw : Nat} {M : PM} (k y : Bool) {m e : Nat} (h : getW M.ms (aTh (Int.ofNat 3) 3) = 0) : StepF Tryz.prog Fz0 40 13 [.ptr 6 (bif k then 3 else 0), .ptr 4 0] (.tuple []) (mem M ++ own n hw k y (.a3 m e 3)) (mem (M.load (aTh (Int.ofNat 3) 3)) ++ own n hw k y (.a4 m e)) id := by
  exact wrapS (y := yv y) (lift (ext := ([(6, twoO k (.ptr 10 0) (yv y)), (7, guardO (bif k then 1 else 0)), (8, listO m)] ++ hadB m)) (a3y_at (m := m) (e := e) (k := 3) rfl h) rfl (eachX_app ⟨⟨show 6 < 40 by decide, rfl, by cases k <;> cases y <;> rfl, show 6 ∉ ([4, 5, 10, 11] : List Nat) by decide⟩, ⟨show 7 < 40 by decide, rfl, rfl, show 7 ∉ ([4, 5, 10, 11] : List Nat) by decide⟩, ⟨show 8 < 40 by decide, rfl, by first | rfl | (cases m <;> rfl), show 8 ∉ ([4, 5, 10, 11] : List Nat) by decide⟩, trivial⟩ (had_ok _ ⟨rfl, rfl⟩ ⟨show 12 ∉ ([4, 5, 10, 11] : List Nat) by decide, show 13 ∉ ([4, 5, 10, 11] : List Nat) by decide⟩)) (by
    intro x hx
    simp only [own, base, mem, List.mem_append, List.mem_cons, List.not_mem_nil, or_false] at hx ⊢
    grind) (by
    intro x hx
    simp only [load_ms, own, base, mem, List.mem_append, List.mem_cons, List.not_mem_nil, or_false] at hx ⊢
    grind)) (by simp [own, base])
theorem x_a4 {n hw : Nat} {M : PM} (k y : Bool) {m e : Nat}  : StepF Tryz.prog Fz0 40 13 [.ptr 6 (bif k then 3 else 0), .ptr 4 0] (.tuple []) (mem M ++ own n hw k y (.a4 m e)) (mem (M.cas aEp e ((e + 1) % 18446744073709551616)) ++ own n hw k y (.b1 m)) (κ1 11 41) := by
  exact wrapS (y := yv y) (lift (ext := ([(6, twoO k (.ptr 10 0) (yv y)), (7, guardO (bif k then 1 else 0)), (8, listO m)] ++ hadB m)) (a4_at (M := M) (m := m) (e := e)) rfl (eachX_app ⟨⟨show 6 < 40 by decide, rfl, by cases k <;> cases y <;> rfl, show 6 ∉ ([4, 5, 10, 11] : List Nat) by decide⟩, ⟨show 7 < 40 by decide, rfl, rfl, show 7 ∉ ([4, 5, 10, 11] : List Nat) by decide⟩, ⟨show 8 < 40 by decide, rfl, by first | rfl | (cases m <;> rfl), show 8 ∉ ([4, 5, 10, 11] : List Nat) by decide⟩, trivial⟩ (had_ok _ ⟨rfl, rfl⟩ ⟨show 12 ∉ ([4, 5, 10, 11] : List Nat) by decide, show 13 ∉ ([4, 5, 10, 11] : List Nat) by decide⟩)) (by
    intro x hx
    simp only [own, base, mem, List.mem_append, List.mem_cons, List.not_mem_nil, or_false] at hx ⊢
    grind) (by
    intro x hx
    simp only [own, base, mem, List.mem_append, List.mem_cons, List.not_mem_nil, or_false] at hx ⊢
    grind)) (by simp [own, base])
theorem x_b1 {n hw : Nat} {M : PM} (k y : Bool) {m : Nat}  : StepF Tryz.prog Fz0 40 13 [.ptr 6 (bif k then 3 else 0), .ptr 4 0] (.tuple []) (mem M ++ own n hw k y (.b1 m)) (mem (M.load aEra) ++ own n hw k y (.b2 m (getW M.ms aEra))) id := by
  exact wrapS (y := yv y) (lift (ext := ([(6, twoO k (.ptr 10 0) (yv y)), (7, guardO (bif k then 1 else 0)), (8, listO m)] ++ hadB m)) (b1_at (M := M) (m := m)) rfl (eachX_app ⟨⟨show 6 < 40 by decide, rfl, by cases k <;> cases y <;> rfl, show 6 ∉ ([4, 5, 10, 11] : List Nat) by decide⟩, ⟨show 7 < 40 by decide, rfl, rfl, show 7 ∉ ([4, 5, 10, 11] : List Nat) by decide⟩, ⟨show 8 < 40 by decide, rfl, by first | rfl | (cases m <;> rfl), show 8 ∉ ([4, 5, 10, 11] : List Nat) by decide⟩, trivial⟩ (had_ok _ ⟨rfl, rfl⟩ ⟨show 12 ∉ ([4, 5, 10, 11] : List Nat) by decide, show 13 ∉ ([4, 5, 10, 11] : List Nat) by decide⟩)) (by
    intro x hx
    simp only [own, base, mem, List.mem_append, List.mem_cons, List.not_mem_nil, or_false] at hx ⊢
    grind) (by
    intro x hx
    simp only [load_ms, own, base, mem, List.mem_append, List.mem_cons, List.not_mem_nil, or_false] at hx ⊢
    grind)) (by simp [own, base])
theorem x_b2 {n hw : Nat} {M : PM} (k y : Bool) {m e : Nat}  : StepF Tryz.prog Fz0 40 13 [.ptr 6 (bif k then 3 else 0), .ptr 4 0] (.tuple []) (mem M ++ own n hw k y (.b2 m e)) (mem (M.cas aEra e ((e + 1) % 18446744073709551616)) ++ own n hw k y (.k1 m)) (κ1 11 41) := by
  exact wrapS (y := yv y) (lift (ext := ([(6, twoO k (.ptr 10 0) (yv y)), (7, guardO (bif k then 1 else 0)), (8, listO m)] ++ hadB m)) (b2_at (M := M) (m := m) (e := e)) rfl (eachX_app ⟨⟨show 6 < 40 by decide, rfl, by cases k <;> cases y <;> rfl, show 6 ∉ ([4, 5, 10, 11] : List Nat) by decide⟩, ⟨show 7 < 40 by decide, rfl, rfl, show 7 ∉ ([4, 5, 10, 11] : List Nat) by decide⟩, ⟨show 8 < 40 by decide, rfl, by first | rfl | (cases m <;> rfl), show 8 ∉ ([4, 5, 10, 11] : List Nat) by decide⟩, trivial⟩ (had_ok _ ⟨rfl, rfl⟩ ⟨show 12 ∉ ([4, 5, 10, 11] : List Nat) by decide, show 13 ∉ ([4, 5, 10, 11] : List Nat) by decide⟩)) (by
    intro x hx
    simp only [own, base, mem, List.mem_append, List.mem_cons, List.not_mem_nil, or_false] at hx ⊢
    grind) (by
    intro x hx
    simp only [own, base, mem, List.mem_append, List.mem_cons, List.not_mem_nil, or_false] at hx ⊢
    grind)) (by simp [own, base])
theorem x_k1 {n hw : Nat} {M : PM} (k y : Bool) {m : Nat} (h : getW M.ms aBl = 1) : StepF Tryz.prog Fz0 40 13 [.ptr 6 (bif k then 3 else 0), .ptr 4 0] (.tuple []) (mem M ++ own n hw k y (.k1 m)) (mem (M.load aBl) ++ own n hw k y (.k2 m 0)) (κ1 14 40) := by
  exact wrapS (y := yv y) (lift (ext := ([(6, twoO k (.ptr 10 0) (yv y)), (7, guardO (bif k then 1 else 0)), (8, listO m)] ++ hadB m)) (k1_at (m := m) h) rfl (eachX_app ⟨⟨show 6 < 40 by decide, rfl, by cases k <;> cases y <;> rfl, show 6 ∉ ([4, 5, 10, 11] : List Nat) by decide⟩, ⟨show 7 < 40 by decide, rfl, rfl, show 7 ∉ ([4, 5, 10, 11] : List Nat) by decide⟩, ⟨show 8 < 40 by decide, rfl, by first | rfl | (cases m <;> rfl), show 8 ∉ ([4, 5, 10, 11] : List Nat) by decide⟩, trivial⟩ (had_ok _ ⟨rfl, rfl⟩ ⟨show 12 ∉ ([4, 5, 10, 11] : List Nat) by decide, show 13 ∉ ([4, 5, 10, 11] : List Nat) by decide⟩)) (by
    intro x hx
    simp only [own, base, mem, List.mem_append, List.mem_cons, List.not_mem_nil, or_false] at hx ⊢
    grind) (by
    intro x hx
    simp only [load_ms, own, base, mem, List.mem_append, List.mem_cons, List.not_mem_nil, or_false] at hx ⊢
    grind)) (by simp [own, base])
theorem x_k2 {n hw : Nat} {M : PM} (k y : Bool) {m j : Nat} (hj : j < 39) (h : getW M.ms (aTh (Int.ofNat (j / 10)) (Int.ofNat (j % 10))) = wd j) : StepF Tryz.prog Fz0 40 13 [.ptr 6 (bif k then 3 else 0), .ptr 4 0] (.tuple []) (mem M ++ own n hw k y (.k2 m j)) (mem (M.load (aTh (Int.ofNat (j / 10)) (Int.ofNat (j % 10)))) ++ own n hw k y (.k2 m (j + 1))) id := by
  exact wrapS (y := yv y) (lift (ext := ([(6, twoO k (.ptr 10 0) (yv y)), (7, guardO (bif k then 1 else 0)), (8, listO m)] ++ hadB m)) (tw_at (m := m) hj h) rfl (eachX_app ⟨⟨show 6 < 40 by decide, rfl, by cases k <;> cases y <;> rfl, show 6 ∉ ([4, 5, 10, 11, 14] : List Nat) by decide⟩, ⟨show 7 < 40 by decide, rfl, rfl, show 7 ∉ ([4, 5, 10, 11, 14] : List Nat) by decide⟩, ⟨show 8 < 40 by decide, rfl, by first | rfl | (cases m <;> rfl), show 8 ∉ ([4, 5, 10, 11, 14] : List Nat) by decide⟩, trivial⟩ (had_ok _ ⟨rfl, rfl⟩ ⟨show 12 ∉ ([4, 5, 10, 11, 14] : List Nat) by decide, show 13 ∉ ([4, 5, 10, 11, 14] : List Nat) by decide⟩)) (by
    intro x hx
    simp only [own, base, twB, mem, List.mem_append, List.mem_cons, List.not_mem_nil, or_false] at hx ⊢
    grind) (by
    intro x hx
    simp only [load_ms, own, base, twB, mem, List.mem_append, List.mem_cons, List.not_mem_nil, or_false] at hx ⊢
    grind)) (by simp [own, base])
theorem x_k2e {n hw : Nat} {M : PM} (k y : Bool) {m : Nat} (h : getW M.ms (aTh (Int.ofNat 3) (Int.ofNat 9)) = 0) : StepF Tryz.prog Fz0 40 13 [.ptr 6 (bif k then 3 else 0), .ptr 4 0] (.tuple []) (mem M ++ own n hw k y (.k2 m 39)) (mem (M.load (aTh (Int.ofNat 3) (Int.ofNat 9))) ++ own n hw k y (.e0 m)) (κ2 11 44 16 43) := by
  exact wrapS (y := yv y) (lift (ext := ([(6, twoO k (.ptr 10 0) (yv y)), (7, guardO (bif k then 1 else 0)), (8, listO m)] ++ hadB m)) (twe_at (m := m) h) rfl (eachX_app ⟨⟨show 6 < 40 by decide, rfl, by cases k <;> cases y <;> rfl, show 6 ∉ ([4, 5, 10, 11, 14] : List Nat) by decide⟩, ⟨show 7 < 40 by decide, rfl, rfl, show 7 ∉ ([4, 5, 10, 11, 14] : List Nat) by decide⟩, ⟨show 8 < 40 by decide, rfl, by first | rfl | (cases m <;> rfl), show 8 ∉ ([4, 5, 10, 11, 14] : List Nat) by decide⟩, trivial⟩ (had_ok _ ⟨rfl, rfl⟩ ⟨show 12 ∉ ([4, 5, 10, 11, 14] : List Nat) by decide, show 13 ∉ ([4, 5, 10, 11, 14] : List Nat) by decide⟩)) (by
    intro x hx
    simp only [own, base, twB, mem, List.mem_append, List.mem_cons, List.not_mem_nil, or_false] at hx ⊢
    grind) (by
    intro x hx
    simp only [load_ms, own, base, mem, List.mem_append, List.mem_cons, List.not_mem_nil, or_false] at hx ⊢
    grind)) (by simp [own, base])
theorem x_e0 {n hw : Nat} {M : PM} (k y : Bool)   : StepF Tryz.prog Fz0 40 13 [.ptr 6 (bif k then 3 else 0), .ptr 4 0] (.tuple []) (mem M ++ own n hw k y (.e0 0)) (mem (M.load aEp) ++ own n hw k y (.dn 0)) id := by
  exact wrapS (y := yv y) (lift (ext := [(6, twoO k (.ptr 10 0) (yv y))]) (e0_at (M := M) (th := bif k then 1 else 0)) rfl (⟨⟨show 6 < 40 by decide, rfl, by cases k <;> cases y <;> rfl, show 6 ∉ ([4, 5, 7, 8, 10, 11] : List Nat) by decide⟩, trivial⟩) (by
    intro x hx
    simp only [own, base, memc, mem, List.mem_append, List.mem_cons, List.not_mem_nil, or_false, hadB] at hx ⊢
    grind) (by
    intro x hx
    simp only [load_ms, own, base, memc, mem, List.mem_append, List.mem_cons, List.not_mem_nil, or_false] at hx ⊢
    grind)) (by simp [own, base])
theorem x_en {n hw : Nat} {M : PM} (k y : Bool)  (h0 : 0 < n) (hn : n ≤ 8) : StepF Tryz.prog Fz0 40 13 [.ptr 6 (bif k then 3 else 0), .ptr 4 0] (.tuple []) (mem M ++ own n hw k y (.e0 n)) (mem (M.load aEp) ++ own n hw k y (.f1 0)) (κ5 n) := by
  obtain ⟨m, rfl⟩ : ∃ m, n = m + 1 := ⟨n - 1, by omega⟩
  exact wrapS (y := yv y) (lift (ext := [(6, twoO k (.ptr 10 0) (yv y))]) (e_at (M := M) (th := bif k then 1 else 0) (m + 1) h0 hn) rfl (⟨⟨show 6 < 40 by decide, rfl, by cases k <;> cases y <;> rfl, show 6 ∉ ([4, 5, 7, 8, 10, 11, 12, 13, 16] : List Nat) by decide⟩, trivial⟩) (by
    intro x hx
    simp only [own, base, eB, memc, mem, List.mem_append, List.mem_cons, List.not_mem_nil, or_false, hadB] at hx ⊢
    grind) (by
    intro x hx
    simp only [load_ms, own, base, fB0, eA, memc, mem, List.mem_append, List.mem_cons, List.not_mem_nil, or_false] at hx ⊢
    grind)) (by simp [own, base])
theorem x_f1 {n hw : Nat} {M : PM} (k y : Bool) {i : Nat} (hL : Lt M) (h : hg (getW M.ms (aL (sl i) 0)) = 0) : StepF Tryz.prog Fz0 40 13 [.ptr 6 (bif k then 3 else 0), .ptr 4 0] (.tuple []) (mem M ++ own n hw k y (.f1 i)) (mem (M.load (aL (sl i) 0)) ++ own n hw k y (.f2 i)) id := by
  exact wrapS (y := yv y) (lift (ext := [(6, twoO k (.ptr 10 0) (yv y)), (7, guardO (bif k then 1 else 0)), (8, .cells false [.nilSlice, .map 12]), (15, .cells false (ents n)), (19, .cells false (refs (i + 1)))]) (f1_at (m := n) (a := 6 * (i + 1)) (b := n - 1 - i) (c := n - 1 - i) (d := i + 1) (z := sl i) hL h) rfl (⟨⟨show 6 < 40 by decide, rfl, by cases k <;> cases y <;> rfl, show 6 ∉ ([4, 5, 10, 11, 17, 18] : List Nat) by decide⟩, ⟨show 7 < 40 by decide, rfl, rfl, show 7 ∉ ([4, 5, 10, 11, 17, 18] : List Nat) by decide⟩, ⟨show 8 < 40 by decide, rfl, by first | rfl | (cases m <;> rfl), show 8 ∉ ([4, 5, 10, 11, 17, 18] : List Nat) by decide⟩, ⟨show 15 < 40 by decide, rfl, ents_names _ _, show 15 ∉ ([4, 5, 10, 11, 17, 18] : List Nat) by decide⟩, ⟨show 19 < 40 by decide, rfl, refs_names _ _, show 19 ∉ ([4, 5, 10, 11, 17, 18] : List Nat) by decide⟩, trivial⟩) (by
    intro x hx
    simp only [own, base, fB0, mem, List.mem_append, List.mem_cons, List.not_mem_nil, or_false] at hx ⊢
    grind) (by
    intro x hx
    simp only [load_ms, own, base, fB0, mem, List.mem_append, List.mem_cons, List.not_mem_nil, or_false] at hx ⊢
    grind)) (by simp [own, base])
theorem x_f2 {n hw : Nat} {M : PM} (k y : Bool) {i : Nat}  : StepF Tryz.prog Fz0 40 13 [.ptr 6 (bif k then 3 else 0), .ptr 4 0] (.tuple []) (mem M ++ own n hw k y (.f2 i)) (mem (M.store (aL (sl i) 0) (mkw 0 1)) ++ own n hw k y (.f3 i)) id := by
  exact wrapS (y := yv y) (lift (ext := [(6, twoO k (.ptr 10 0) (yv y)), (7, guardO (bif k then 1 else 0)), (8, .cells false [.nilSlice, .map 12]), (15, .cells false (ents n)), (19, .cells false (refs (i + 1)))]) (f2_at (M := M) (m := n) (a := 6 * (i + 1)) (b := n - 1 - i) (c := n - 1 - i) (d := i + 1) (z := sl i)) rfl (⟨⟨show 6 < 40 by decide, rfl, by cases k <;> cases y <;> rfl, show 6 ∉ ([4, 5, 10, 11, 17, 18] : List Nat) by decide⟩, ⟨show 7 < 40 by decide, rfl, rfl, show 7 ∉ ([4, 5, 10, 11, 17, 18] : List Nat) by decide⟩, ⟨show 8 < 40 by decide, rfl, by first | rfl | (cases m <;> rfl), show 8 ∉ ([4, 5, 10, 11, 17, 18] : List Nat) by decide⟩, ⟨show 15 < 40 by decide, rfl, ents_names _ _, show 15 ∉ ([4, 5, 10, 11, 17, 18] : List Nat) by decide⟩, ⟨show 19 < 40 by decide, rfl, refs_names _ _, show 19 ∉ ([4, 5, 10, 11, 17, 18] : List Nat) by decide⟩, trivial⟩) (by
    intro x hx
    simp only [own, base, fB0, mem, List.mem_append, List.mem_cons, List.not_mem_nil, or_false] at hx ⊢
    grind) (by
    intro x hx
    simp only [own, base, fB0, mem, List.mem_append, List.mem_cons, List.not_mem_nil, or_false] at hx ⊢
    grind)) (by simp [own, base])
theorem x_f3 {n hw : Nat} {M : PM} (k y : Bool) {i : Nat} (hi : i < 8) (h : getW M.ms aS1 ≠ 2) : StepF Tryz.prog Fz0 40 13 [.ptr 6 (bif k then 3 else 0), .ptr 4 0] (.tuple []) (mem M ++ own n hw k y (.f3 i)) (mem (M.load aS1) ++ own n hw k y (.f4 i)) (κ1 17 40) := by
  exact wrapS (y := yv y) (lift (ext := [(6, twoO k (.ptr 10 0) (yv y)), (7, guardO (bif k then 1 else 0)), (8, .cells false [.nilSlice, .map 12]), (15, .cells false (ents n)), (19, .cells false (refs (i + 1)))]) (f3_at (m := n) (a := 6 * (i + 1)) (b := n - 1 - i) (c := n - 1 - i) (d := i + 1) (z := sl i) (sl_8 hi) h) rfl (⟨⟨show 6 < 40 by decide, rfl, by cases k <;> cases y <;> rfl, show 6 ∉ ([4, 5, 10, 11, 17, 18] : List Nat) by decide⟩, ⟨show 7 < 40 by decide, rfl, rfl, show 7 ∉ ([4, 5, 10, 11, 17, 18] : List Nat) by decide⟩, ⟨show 8 < 40 by decide, rfl, by first | rfl | (cases m <;> rfl), show 8 ∉ ([4, 5, 10, 11, 17, 18] : List Nat) by decide⟩, ⟨show 15 < 40 by decide, rfl, ents_names _ _, show 15 ∉ ([4, 5, 10, 11, 17, 18] : List Nat) by decide⟩, ⟨show 19 < 40 by decide, rfl, refs_names _ _, show 19 ∉ ([4, 5, 10, 11, 17, 18] : List Nat) by decide⟩, trivial⟩) (by
    intro x hx
    simp only [own, base, fB0, mem, List.mem_append, List.mem_cons, List.not_mem_nil, or_false] at hx ⊢
    grind) (by
    intro x hx
    simp only [load_ms, own, base, fB0, mem, List.mem_append, List.mem_cons, List.not_mem_nil, or_false] at hx ⊢
    grind)) (by simp [own, base])
theorem x_f4 {n hw : Nat} {M : PM} (k y : Bool) {i : Nat} (hL : Lt M) : StepF Tryz.prog Fz0 40 13 [.ptr 6 (bif k then 3 else 0), .ptr 4 0] (.tuple []) (mem M ++ own n hw k y (.f4 i)) (mem (M.load aF) ++ own n hw k y (.f5 i (getW M.ms aF))) id := by
  exact wrapS (y := yv y) (lift (ext := [(6, twoO k (.ptr 10 0) (yv y)), (7, guardO (bif k then 1 else 0)), (8, .cells false [.nilSlice, .map 12]), (15, .cells false (ents n)), (19, .cells false (refs (i + 1)))]) (f4_at (m := n) (a := 6 * (i + 1)) (b := n - 1 - i) (c := n - 1 - i) (d := i + 1) (z := sl i) hL) rfl (⟨⟨show 6 < 40 by decide, rfl, by cases k <;> cases y <;> rfl, show 6 ∉ ([4, 5, 10, 11, 17] : List Nat) by decide⟩, ⟨show 7 < 40 by decide, rfl, rfl, show 7 ∉ ([4, 5, 10, 11, 17] : List Nat) by decide⟩, ⟨show 8 < 40 by decide, rfl, by first | rfl | (cases m <;> rfl), show 8 ∉ ([4, 5, 10, 11, 17] : List Nat) by decide⟩, ⟨show 15 < 40 by decide, rfl, ents_names _ _, show 15 ∉ ([4, 5, 10, 11, 17] : List Nat) by decide⟩, ⟨show 19 < 40 by decide, rfl, refs_names _ _, show 19 ∉ ([4, 5, 10, 11, 17] : List Nat) by decide⟩, trivial⟩) (by
    intro x hx
    simp only [own, base, fB0, mem, List.mem_append, List.mem_cons, List.not_mem_nil, or_false] at hx ⊢
    grind) (by
    intro x hx
    simp only [load_ms, own, base, fB0, mem, List.mem_append, List.mem_cons, List.not_mem_nil, or_false] at hx ⊢
    grind)) (by simp [own, base])
theorem x_f5 {n hw : Nat} {M : PM} (k y : Bool) {i w : Nat} (hw2 : w < 18446744073709551616) : StepF Tryz.prog Fz0 40 13 [.ptr 6 (bif k then 3 else 0), .ptr 4 0] (.tuple []) (mem M ++ own n hw k y (.f5 i w)) (mem (M.store (aL (sl i) 2) (hdN (slI w) 0)) ++ own n hw k y (.f6 i w)) id := by
  exact wrapS (y := yv y) (lift (ext := [(6, twoO k (.ptr 10 0) (yv y)), (7, guardO (bif k then 1 else 0)), (8, .cells false [.nilSlice, .map 12]), (15, .cells false (ents n)), (19, .cells false (refs (i + 1)))]) (f5_at (M := M) (m := n) (a := 6 * (i + 1)) (b := n - 1 - i) (c := n - 1 - i) (d := i + 1) (z := sl i) hw2) rfl (⟨⟨show 6 < 40 by decide, rfl, by cases k <;> cases y <;> rfl, show 6 ∉ ([4, 5, 10, 11, 17] : List Nat) by decide⟩, ⟨show 7 < 40 by decide, rfl, rfl, show 7 ∉ ([4, 5, 10, 11, 17] : List Nat) by decide⟩, ⟨show 8 < 40 by decide, rfl, by first | rfl | (cases m <;> rfl), show 8 ∉ ([4, 5, 10, 11, 17] : List Nat) by decide⟩, ⟨show 15 < 40 by decide, rfl, ents_names _ _, show 15 ∉ ([4, 5, 10, 11, 17] : List Nat) by decide⟩, ⟨show 19 < 40 by decide, rfl, refs_names _ _, show 19 ∉ ([4, 5, 10, 11, 17] : List Nat) by decide⟩, trivial⟩) (by
    intro x hx
    simp only [own, base, fB0, mem, List.mem_append, List.mem_cons, List.not_mem_nil, or_false] at hx ⊢
    grind) (by
    intro x hx
    simp only [own, base, fB0, mem, List.mem_append, List.mem_cons, List.not_mem_nil, or_false] at hx ⊢
    grind)) (by simp [own, base])
theorem x_f6 {n hw : Nat} {M : PM} (k y : Bool) {i w : Nat} (hi : i + 1 < n) (hn : n ≤ 8) (hw2 : w < 18446744073709551616) (hc : M.casd aF w = true) : StepF Tryz.prog Fz0 40 13 [.ptr 6 (bif k then 3 else 0), .ptr 4 0] (.tuple []) (mem M ++ own n hw k y (.f6 i w)) (mem (M.cas aF w (hdN (sl i) (tgN w + 1))) ++ own n hw k y (.f1 (i + 1))) (κ4) := by
  exact wrapS (y := yv y) (lift (ext := [(6, twoO k (.ptr 10 0) (yv y)), (7, guardO (bif k then 1 else 0)), (8, .cells false [.nilSlice, .map 12])]) (f6_at hi hn hw2 hc) rfl (⟨⟨show 6 < 40 by decide, rfl, by cases k <;> cases y <;> rfl, show 6 ∉ ([4, 5, 10, 11, 17, 15, 19] : List Nat) by decide⟩, ⟨show 7 < 40 by decide, rfl, rfl, show 7 ∉ ([4, 5, 10, 11, 17, 15, 19] : List Nat) by decide⟩, ⟨show 8 < 40 by decide, rfl, by first | rfl | (cases m <;> rfl), show 8 ∉ ([4, 5, 10, 11, 17, 15, 19] : List Nat) by decide⟩, trivial⟩) (by
    intro x hx
    simp only [own, base, fB0, fB, memc, mem, List.mem_append, List.mem_cons, List.not_mem_nil, or_false] at hx ⊢
    grind) (by
    intro x hx
    simp only [own, base, fB0, fA, memc, mem, List.mem_append, List.mem_cons, List.not_mem_nil, or_false] at hx ⊢
    grind)) (by simp [own, base])
theorem x_f6e {n hw : Nat} {M : PM} (k y : Bool) {i w : Nat} (hi : i + 1 = n) (hn : n ≤ 8) (hw2 : w < 18446744073709551616) (hc : M.casd aF w = true) : StepF Tryz.prog Fz0 40 13 [.ptr 6 (bif k then 3 else 0), .ptr 4 0] (.tuple []) (mem M ++ own n hw k y (.f6 i w)) (mem (M.cas aF w (hdN (sl i) (tgN w + 1))) ++ own n hw k y (.dn n)) id := by
  obtain ⟨m, rfl⟩ : ∃ m, n = m + 1 := ⟨n - 1, by omega⟩
  obtain rfl : i = m := by omega
  exact wrapS (y := yv y) (lift (ext := [(6, twoO k (.ptr 10 0) (yv y)), (7, guardO (bif k then 1 else 0)), (8, .cells false [.nilSlice, .map 12])]) (g6_at (n := i + 1) (by omega) hn hw2 hc) rfl (⟨⟨show 6 < 40 by decide, rfl, by cases k <;> cases y <;> rfl, show 6 ∉ ([4, 5, 10, 11, 17, 15, 19] : List Nat) by decide⟩, ⟨show 7 < 40 by decide, rfl, rfl, show 7 ∉ ([4, 5, 10, 11, 17, 15, 19] : List Nat) by decide⟩, ⟨show 8 < 40 by decide, rfl, by first | rfl | (cases m <;> rfl), show 8 ∉ ([4, 5, 10, 11, 17, 15, 19] : List Nat) by decide⟩, trivial⟩) (by
    intro x hx
    simp only [own, base, fB0, fB, memc, mem, List.mem_append, List.mem_cons, List.not_mem_nil, or_false, Nat.add_sub_cancel] at hx ⊢
    grind) (by
    intro x hx
    simp only [own, base, memc, mem, List.mem_append, List.mem_cons, List.not_mem_nil, or_false, dO, Nat.add_sub_cancel] at hx ⊢
    grind)) (by simp [own, base])
theorem x_dn0 {n hw : Nat} {M : PM} (k y : Bool)   : StepF Tryz.prog Fz0 40 13 [.ptr 6 (bif k then 3 else 0), .ptr 4 0] (.tuple []) (mem M ++ own n hw k y (.dn 0)) (mem (M) ++ own n hw k y (.dn 0)) id := by
  exact wrapS (y := yv y) (lift (ext := [(6, twoO k (.ptr 10 0) (yv y)), (7, guardO (bif k then 1 else 0)), (8, .cells false [.nilSlice, .nilMap])]) (dn0_at (M := M)) rfl (⟨⟨show 6 < 40 by decide, rfl, by cases k <;> cases y <;> rfl, show 6 ∉ ([4, 5, 10] : List Nat) by decide⟩, ⟨show 7 < 40 by decide, rfl, rfl, show 7 ∉ ([4, 5, 10] : List Nat) by decide⟩, ⟨show 8 < 40 by decide, rfl, by first | rfl | (cases m <;> rfl), show 8 ∉ ([4, 5, 10] : List Nat) by decide⟩, trivial⟩) (by
    intro x hx
    simp only [own, base, mem, List.mem_append, List.mem_cons, List.not_mem_nil, or_false, dO] at hx ⊢
    grind) (by
    intro x hx
    simp only [own, base, mem, List.mem_append, List.mem_cons, List.not_mem_nil, or_false, dO] at hx ⊢
    grind)) (by simp [own, base])
theorem x_dn1 {n hw : Nat} {M : PM} (k y : Bool) {m : Nat}  : StepF Tryz.prog Fz0 40 13 [.ptr 6 (bif k then 3 else 0), .ptr 4 0] (.tuple []) (mem M ++ own n hw k y (.dn (m + 1))) (mem (M) ++ own n hw k y (.dn (m + 1))) id := by
  exact wrapS (y := yv y) (lift (ext := [(6, twoO k (.ptr 10 0) (yv y)), (7, guardO (bif k then 1 else 0)), (8, .cells false [.nilSlice, .map 12]), (19, .cells false (refs (m + 1)))]) (dn1_at (M := M) (m := m)) rfl (⟨⟨show 6 < 40 by decide, rfl, by cases k <;> cases y <;> rfl, show 6 ∉ ([4, 5, 10] : List Nat) by decide⟩, ⟨show 7 < 40 by decide, rfl, rfl, show 7 ∉ ([4, 5, 10] : List Nat) by decide⟩, ⟨show 8 < 40 by decide, rfl, by first | rfl | (cases m <;> rfl), show 8 ∉ ([4, 5, 10] : List Nat) by decide⟩, ⟨show 19 < 40 by decide, rfl, refs_names _ _, show 19 ∉ ([4, 5, 10] : List Nat) by decide⟩, trivial⟩) (by
    intro x hx
    simp only [own, base, mem, List.mem_append, List.mem_cons, List.not_mem_nil, or_false, dO] at hx ⊢
    grind) (by
    intro x hx
    simp only [own, base, mem, List.mem_append, List.mem_cons, List.not_mem_nil, or_false, dO] at hx ⊢
    grind)) (by simp [own, base])
def sc : LS → Bool
  | .t1 _ => false
  | .t2 _ => false
  | .t3 _ => false
  | .t4 _ => false
  | .t5 _ => false
  | .t6 _ => false
  | .t7 _ => false
  | _ => true
/-- Who has a scan keeps it. -/
def Keeps (κ : Nat → Nat) (l l2 : LS) : Prop := (sc l = true → κ 10 = 10 ∧ sc l2 = true)
theorem nx_step {n hw : Nat} {l l2 : LS} {M M2 : PM} (k y : Bool) (h : Nx n hw l M l2 M2) : ∃ κ, KOk κ ∧ Keeps κ l l2 ∧ StepF Tryz.prog Fz0 40 13 [.ptr 6 (bif k then 3 else 0), .ptr 4 0] (.tuple []) (mem M ++ own n hw k y l) (mem M2 ++ own n hw k y l2) κ := by
  cases h with
  | t1n _ hd hL h => exact ⟨_, kok (by decide), fun hs => (by first | exact ⟨rfl, rfl⟩ | cases hs), x_t1n k y hL h⟩
  | t2y _ hd hw2 hc he hs => exact ⟨_, kok (by decide), fun hs => (by first | exact ⟨rfl, rfl⟩ | cases hs), x_t2y k y hw2 hc he hs⟩
  | t2n _ hd hw2 hc => exact ⟨_, kok (by decide), fun hs => (by first | exact ⟨rfl, rfl⟩ | cases hs), x_t2n k y hw2 hc⟩
  | t3 _ i hL h => exact ⟨_, kok (by decide), fun hs => (by first | exact ⟨rfl, rfl⟩ | cases hs), x_t3 k y hL h⟩
  | t4 _ i h => exact ⟨_, kok (by decide), fun hs => (by first | exact ⟨rfl, rfl⟩ | cases hs), x_t4 k y h⟩
  | t5 _ i h => exact ⟨_, kok (by decide), fun hs => (by first | exact ⟨rfl, rfl⟩ | cases hs), x_t5 k y h⟩
  | t6a _ h => exact ⟨_, kok (by decide), fun hs => (by first | exact ⟨rfl, rfl⟩ | cases hs), x_t6a k y h⟩
  | t6b _ i hi h => exact ⟨_, kok (by decide), fun hs => (by first | exact ⟨rfl, rfl⟩ | cases hs), x_t6b k y hi h⟩
  | t7n _ i hL hi h => exact ⟨_, kok (by decide), fun hs => (by first | exact ⟨rfl, rfl⟩ | cases hs), x_t7n k y hL hi h⟩
  | t1y _ hd hL h => exact ⟨_, kok (by decide), fun hs => (by first | exact ⟨rfl, rfl⟩ | cases hs), x_t1y k y hL h⟩
  | t7y _ i hi hn h => exact ⟨_, kok (by refine ⟨⟨?_, ?_, ?_, ?_, ?_, ?_, ?_, ?_, ?_, ?_⟩, ?_, ?_, ?_, ?_, ?_, ?_, ?_, ?_, ?_, ?_⟩ <;> rfl), fun hs => (by first | exact ⟨rfl, rfl⟩ | cases hs), x_t7y k y hi hn h⟩
  | s0z _ h => exact ⟨_, kok (by decide), fun hs => (by first | exact ⟨rfl, rfl⟩ | cases hs), x_s0z k y h⟩
  | s0s _ m h => exact ⟨_, kok (by decide), fun hs => (by first | exact ⟨rfl, rfl⟩ | cases hs), x_s0s k y h⟩
  | a1 _ m => exact ⟨_, kok (by decide), fun hs => (by first | exact ⟨rfl, rfl⟩ | cases hs), x_a1 k y⟩
  | a2 _ m e h => exact ⟨_, kok (by decide), fun hs => (by first | exact ⟨rfl, rfl⟩ | cases hs), x_a2 k y h⟩
  | a3n _ m e i hi h => exact ⟨_, kok (by decide), fun hs => (by first | exact ⟨rfl, rfl⟩ | cases hs), x_a3n k y hi h⟩
  | a3y _ m e h => exact ⟨_, kok (by decide), fun hs => (by first | exact ⟨rfl, rfl⟩ | cases hs), x_a3y k y h⟩
  | a4 _ m e => exact ⟨_, kok (by decide), fun hs => (by first | exact ⟨rfl, rfl⟩ | cases hs), x_a4 k y⟩
  | b1 _ m => exact ⟨_, kok (by decide), fun hs => (by first | exact ⟨rfl, rfl⟩ | cases hs), x_b1 k y⟩
  | b2 _ m e => exact ⟨_, kok (by decide), fun hs => (by first | exact ⟨rfl, rfl⟩ | cases hs), x_b2 k y⟩
  | k1 _ m h => exact ⟨_, kok (by decide), fun hs => (by first | exact ⟨rfl, rfl⟩ | cases hs), x_k1 k y h⟩
  | k2 _ m j hj h => exact ⟨_, kok (by decide), fun hs => (by first | exact ⟨rfl, rfl⟩ | cases hs), x_k2 k y hj h⟩
  | k2e _ m h => exact ⟨_, kok (by decide), fun hs => (by first | exact ⟨rfl, rfl⟩ | cases hs), x_k2e k y h⟩
  | e0 _  => exact ⟨_, kok (by decide), fun hs => (by first | exact ⟨rfl, rfl⟩ | cases hs), x_e0 k y⟩
  | en _ h0 hn => exact ⟨_, kok (by refine ⟨⟨?_, ?_, ?_, ?_, ?_, ?_, ?_, ?_, ?_, ?_⟩, ?_, ?_, ?_, ?_, ?_, ?_, ?_, ?_, ?_, ?_⟩ <;> rfl), fun hs => (by first | exact ⟨rfl, rfl⟩ | cases hs), x_en k y h0 hn⟩
  | f1 _ i hL h => exact ⟨_, kok (by decide), fun hs => (by first | exact ⟨rfl, rfl⟩ | cases hs), x_f1 k y hL h⟩
  | f2 _ i => exact ⟨_, kok (by decide), fun hs => (by first | exact ⟨rfl, rfl⟩ | cases hs), x_f2 k y⟩
  | f3 _ i hi h => exact ⟨_, kok (by decide), fun hs => (by first | exact ⟨rfl, rfl⟩ | cases hs), x_f3 k y hi h⟩
  | f4 _ i hL => exact ⟨_, kok (by decide), fun hs => (by first | exact ⟨rfl, rfl⟩ | cases hs), x_f4 k y hL⟩
  | f5 _ i w hw2 => exact ⟨_, kok (by decide), fun hs => (by first | exact ⟨rfl, rfl⟩ | cases hs), x_f5 k y hw2⟩
  | f6 _ i w hi hn hw2 hc => exact ⟨_, kok (by decide), fun hs => (by first | exact ⟨rfl, rfl⟩ | cases hs), x_f6 k y hi hn hw2 hc⟩
  | f6e _ i w hi hn hw2 hc => exact ⟨_, kok (by decide), fun hs => (by first | exact ⟨rfl, rfl⟩ | cases hs), x_f6e k y hi hn hw2 hc⟩
  | dn0 _  => exact ⟨_, kok (by decide), fun hs => (by first | exact ⟨rfl, rfl⟩ | cases hs), x_dn0 k y⟩
  | dn1 _ m => exact ⟨_, kok (by decide), fun hs => (by first | exact ⟨rfl, rfl⟩ | cases hs), x_dn1 k y⟩
end Go.Proofs.YtimnagafechmbaaGreatDoor.scansOrphans
