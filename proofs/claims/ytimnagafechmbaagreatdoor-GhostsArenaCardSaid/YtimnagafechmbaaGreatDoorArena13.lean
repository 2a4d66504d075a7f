/- frees, wherever it is called; a ref and its word. Conditions: those that each theorem names, and no others. -/
import Derived.Test.YtimnagafechmbaaGreatDoorArena11
import Derived.Test.YtimnagafechmbaaGreatDoorArena12
namespace Go.Proofs.YtimnagafechmbaaGreatDoor.ghostsArena
open Go Go.Mini
/-! ### frees, on its own heap -/
def HF (M : PM) (oL oh oe oo : AObj) : AS := ⟨⟨[(2, .cells false (M.C (.map 3))), (3, mapO M.ms), (4, .cells false (gcl 5)), (5, oL), (6, oh), (7, oe), (8, oo), (0, .cells true wf), (1, .cells true lf)], 9, none, []⟩, 9⟩
def gh1 (z : Int) (g : Nat) : Gh := ⟨0, 0, z, g, false⟩
theorem fs1_e {s : AS} {b bm xa xd xk : Nat} {M : PM} {mo : Nat} {z : Int} {g0 : Nat} (hx : hg (getW M.ms (aL z 0)) = g0) (h : AIn5 s b bm xa xd xk M (Fcl z (hdrI xd) 1 0) (Hcl z (nfF xk) 0 false 0) ([.int .u32 (Int.ofNat mo)])) :
    Sound Tryz.prog (.call 66 [.ptr xa 0, .ptr b 0] s) ⟨.ret, [.bool false], (((((s.set b (.cells false ((M.load (aL z 0)).C (.map bm)))).set bm (mapO (M.load (aL z 0)).ms)).set xa (.cells false (Fcl z (hdrI xd) 1 0))).set xd (.cells false (Hcl z (nfF xk) g0 true 0))).set xk (.cells false ([.int .u32 (Int.ofNat mo)])))⟩ := by
  have := fs1_at h
  rw [hx] at this
  exact this
theorem fs4_e {s : AS} {b bm xa xd : Nat} {M : PM} {z : Int} {w0 : Nat} (hx : getW M.ms aF = w0) (h : AIn s b bm xa xd M (Fcl z (pshI xd) 1 0) (Scl 1 0 z)) :
    Sound Tryz.prog (.call 66 [.ptr xa 0, .ptr b 0] s) ⟨.ret, [.bool false], ((((s.set b (.cells false ((M.load aF).C (.map bm)))).set bm (mapO (M.load aF).ms)).set xa (.cells false (Fcl z (pshI xd) 1 0))).set xd (.cells false (Scl 2 w0 z)))⟩ := by
  have := fs4_at h
  rw [hx] at this
  exact this
theorem fg3_e {s : AS} {b bm xa xd : Nat} {M : PM} {z : Int} {n0 : Nat} (hx : getW M.ms aPk = n0) (h : AIn s b bm xa xd M (Fcl z (cntI xd) 1 0) (Ccl 0 false)) :
    Sound Tryz.prog (.call 66 [.ptr xa 0, .ptr b 0] s) ⟨.ret, [.bool false], ((((s.set b (.cells false ((M.load aPk).C (.map bm)))).set bm (mapO (M.load aPk).ms)).set xa (.cells false (Fcl z (cntI xd) 1 0))).set xd (.cells false (Ccl n0 true)))⟩ := by
  have := fg3_at h
  rw [hx] at this
  exact this
theorem frees_y {M : PM} {z : Int} {g mo : Nat} (H : FreeIn M z g mo) (hlt : g < mo) {oL oh oe oL1 oh1 oe1 p1 p2 : AObj} (hT : Take z g (getW M.ms (aL z 1)) (getW M.ms aEp) (getW M.ms aEra) oL oh oe oL1 oh1 oe1 p1 p2) :
    ∃ s1, Sound Tryz.prog (.call 28 [.ptr 2 0, .ptr 4 0, .agg [.int .i64 z, .int .u32 (Int.ofNat g), .bool false], .int .u32 (Int.ofNat mo), .slice 8 0 1 1] (HF M oL oh oe (.cells false (ghC (gh1 z g))))) ⟨.ret, [.bool true], s1⟩ ∧
      s1.get 2 = some (.cells false ((mY12 M z g).C (.map 3))) ∧ s1.get 3 = some (mapO (mY12 M z g).ms) ∧ s1.get 4 = some (.cells false (gcl 5)) ∧ s1.get 5 = some oL1 ∧ s1.get 6 = some oh1 ∧ s1.get 7 = some oe1 ∧ s1.get 8 = some (.cells false (ghC (gh1 z g))) ∧ s1.get 12 = some p1 ∧ s1.get 13 = some p2 := by
  have hold : holdP (acM (mY8 M z g)).pl (hg (acM (mY8 M z g)).wa) (gh1 z g) = true := by
    have e1 : (acM (mY8 M z g)).pl = z := by
      show ((PM.store _ _ _).a).2.1 = z
      rw [PM.store_a]
      rfl
    have e2 : (acM (mY8 M z g)).wa = mkw 2 g := by
      show (PM.store (mF7 M z g) (aL z 0) _).was = _
      rw [store_ms (mayL H.hz ⟨by omega, by omega⟩)]
      exact F7_0 H
    rw [e1, e2, hg_mkw (by omega) (by have := H.hg; have := H.hm; omega)]
    simp [holdP, gh1]
  have e7 : hg (getW (mR6 M z g).ms (aL z 0)) = g := by
    rw [show getW (mR6 M z g).ms (aL z 0) = mkw 2 g from F7_0 H, hg_mkw (by omega) (by have := H.hg; have := H.hm; omega)]
  have e10 : getW (mY9 M z g).ms aF = getW M.ms aF := Y8_o H (by decide)
  exact ⟨_, runX_sound mixed none_sound (fr_y z g mo (hdrI 15) (pshI 17) (.cells false (M.C (.map 3))) (mapO M.ms) .dead oL oh oe (.cells false (ghC (gh1 z g))) oL1 oh1 oe1 p1 p2 (.cells false (gcl 5)) (.cells false ((mR1 M).C (.map 3))) (mapO (mR1 M).ms) (.cells false ((mR2 M).C (.map 3))) (mapO (mR2 M).ms) (.cells false ((mR3 M z).C (.map 3))) (mapO (mR3 M z).ms) (.cells false ((mR4 M z).C (.map 3))) (mapO (mR4 M z).ms) (.cells false ((mR5 M z).C (.map 3))) (mapO (mR5 M z).ms) (.cells false ((mR6 M z g).C (.map 3))) (mapO (mR6 M z g).ms) (.cells false ((mF7 M z g).C (.map 3))) (mapO (mF7 M z g).ms) (.cells false ((mY8 M z g).C (.map 3))) (mapO (mY8 M z g).ms) (.cells false ((mY9 M z g).C (.map 3))) (mapO (mY9 M z g).ms) (.cells false ((mY10 M z g).C (.map 3))) (mapO (mY10 M z g).ms) (.cells false ((mY11 M z g).C (.map 3))) (mapO (mY11 M z g).ms) (.cells false ((mY12 M z g).C (.map 3))) (mapO (mY12 M z g).ms) (.cells false (Rcl 4 2 z g 0 (getW M.ms aEp) 0)) (.cells false (Rcl 4 3 z g 0 (getW M.ms aEp) (getW M.ms aEra))) (.cells false (Rcl 4 4 z g (getW M.ms (aL z 1)) (getW M.ms aEp) (getW M.ms aEra))) (.cells false (Rcl 4 5 z g (getW M.ms (aL z 1)) (getW M.ms aEp) (getW M.ms aEra))) (.cells false (Rcl 4 6 z g (getW M.ms (aL z 1)) (getW M.ms aEp) (getW M.ms aEra))) (.cells false (Rcl 4 0 z g (getW M.ms (aL z 1)) (getW M.ms aEp) (getW M.ms aEra))) (.cells false (Hcl z (nfF 14) g true 0)) (.cells false [.int .u32 (Int.ofNat mo)]) (.cells false (Hcl z (nfF 14) (g + 1) true 0)) (.cells false [.int .u32 (Int.ofNat mo)]) (.cells false (Hcl z (nfF 14) (g + 1) true 0)) (.cells false [.int .u32 (Int.ofNat mo)]) (.cells false (Scl 2 (getW M.ms aF) z)) .dead (.cells false (Scl 3 (getW M.ms aF) z)) .dead (.cells false (Scl 0 (getW M.ms aF) z)) (.cells false (Scl 1 0 z)) (LA (mR1 M).kd (mR1 M).a (mR1 M).was (mR1 M).is (mR1 M).dn) (LA (mR2 M).kd (mR2 M).a (mR2 M).was (mR2 M).is (mR2 M).dn) (LA (mR3 M z).kd (mR3 M z).a (mR3 M z).was (mR3 M z).is (mR3 M z).dn) (LA (mR4 M z).kd (mR4 M z).a (mR4 M z).was (mR4 M z).is (mR4 M z).dn) (LA (mR5 M z).kd (mR5 M z).a (mR5 M z).was (mR5 M z).is (mR5 M z).dn) (LA (mR6 M z g).kd (mR6 M z g).a (mR6 M z g).was (mR6 M z g).is (mR6 M z g).dn) (LA (mF7 M z g).kd (mF7 M z g).a (mF7 M z g).was (mF7 M z g).is (mF7 M z g).dn) (LA (mY8 M z g).kd (mY8 M z g).a (mY8 M z g).was (mY8 M z g).is (mY8 M z g).dn) (LA (mY9 M z g).kd (mY9 M z g).a (mY9 M z g).was (mY9 M z g).is (mY9 M z g).dn) (LA (mY10 M z g).kd (mY10 M z g).a (mY10 M z g).was (mY10 M z g).is (mY10 M z g).dn) (LA (mY11 M z g).kd (mY11 M z g).a (mY11 M z g).was (mY11 M z g).is (mY11 M z g).dn) (LA (mY12 M z g).kd (mY12 M z g).a (mY12 M z g).was (mY12 M z g).is (mY12 M z g).dn))
    ⟨by have := H.hz; simp [Qst.ok]; omega,
     by have := H.hz; simp [Qst.ok]; omega,
     rs1_at (b := 2) (bm := 3) (xa := 11) (xg := 4) (M := M) (z := z) (g0 := g)  ⟨rfl, rfl, rfl, ⟨_, rfl⟩, by decide, by decide, H.lt⟩,
     last_at (b := 2) (bm := 3) (M := (mR1 M)) rfl rfl,
     one0 (a := acM (mR1 M)) (m := mo) (xo := 8) (g := gh1 z g) f1 (w1 H) H.hm (show z < 9223372036854775808 by have := H.hz; omega) (⟨true, rfl⟩) (⟨true, rfl⟩) (⟨false, rfl⟩),
     rs2_at (b := 2) (bm := 3) (xa := 11) (xg := 4) (M := (mR1 M)) (z := z) (g0 := g) (ep := (getW M.ms aEp)) ⟨rfl, rfl, rfl, ⟨_, rfl⟩, by decide, by decide, (l1 H)⟩,
     last_at (b := 2) (bm := 3) (M := (mR2 M)) rfl rfl,
     one0 (a := acM (mR2 M)) (m := mo) (xo := 8) (g := gh1 z g) f2 (w2 H) H.hm (show z < 9223372036854775808 by have := H.hz; omega) (⟨true, rfl⟩) (⟨true, rfl⟩) (⟨false, rfl⟩),
     rs3_at (b := 2) (bm := 3) (xa := 11) (xg := 4) (M := (mR2 M)) (z := z) (g0 := g) (ep := (getW M.ms aEp)) (er := (getW M.ms aEra)) ⟨rfl, rfl, rfl, ⟨_, rfl⟩, by decide, by decide, (l2 H)⟩,
     last_at (b := 2) (bm := 3) (M := (mR3 M z)) rfl rfl,
     one0 (a := acM (mR3 M z)) (m := mo) (xo := 8) (g := gh1 z g) f3 (w3 H) H.hm (show z < 9223372036854775808 by have := H.hz; omega) (⟨true, rfl⟩) (⟨true, rfl⟩) (⟨false, rfl⟩),
     rs4_at (b := 2) (bm := 3) (xa := 11) (xg := 4) (M := (mR3 M z)) (z := z) (g0 := g) (bi := (getW M.ms (aL z 1))) (ep := (getW M.ms aEp)) (er := (getW M.ms aEra)) ⟨rfl, rfl, rfl, ⟨_, rfl⟩, by decide, by decide, (l3 H)⟩,
     last_at (b := 2) (bm := 3) (M := (mR4 M z)) rfl rfl,
     one0 (a := acM (mR4 M z)) (m := mo) (xo := 8) (g := gh1 z g) f4 (w4 H) H.hm (show z < 9223372036854775808 by have := H.hz; omega) (⟨true, rfl⟩) (⟨true, rfl⟩) (⟨false, rfl⟩),
     rs5_at (b := 2) (bm := 3) (xa := 11) (xg := 4) (M := (mR4 M z)) (z := z) (g0 := g) (bi := (getW M.ms (aL z 1))) (ep := (getW M.ms aEp)) (er := (getW M.ms aEra)) ⟨rfl, rfl, rfl, ⟨_, rfl⟩, by decide, by decide, (l4 H)⟩,
     last_at (b := 2) (bm := 3) (M := (mR5 M z)) rfl rfl,
     one0 (a := acM (mR5 M z)) (m := mo) (xo := 8) (g := gh1 z g) f5 (w5 H) H.hm (show z < 9223372036854775808 by have := H.hz; omega) (⟨true, rfl⟩) (⟨true, rfl⟩) (⟨false, rfl⟩),
     hT _ _ _ _ _,
     last_at (b := 2) (bm := 3) (M := (mR6 M z g)) rfl rfl,
     one0 (a := acM (mR6 M z g)) (m := mo) (xo := 8) (g := gh1 z g) (f6 H) (w6 H) H.hm (show z < 9223372036854775808 by have := H.hz; omega) (⟨true, rfl⟩) (⟨true, rfl⟩) (⟨false, rfl⟩),
     by have := H.hz; simp [Qst.ok]; omega,
     by have := H.hz; simp [Qst.ok]; omega,
     fs1_e (b := 2) (bm := 3) (xa := 16) (xd := 15) (xk := 14) (M := (mR6 M z g)) (mo := mo) (z := z) e7 ⟨rfl, rfl, rfl, rfl, rfl, ⟨_, rfl⟩, by decide, by decide, (l6 H)⟩,
     last_at (b := 2) (bm := 3) (M := (mF7 M z g)) rfl rfl,
     nil0 (a := acM (mF7 M z g)) (m := mo) (fun y => f7 false y) (w7 H) H.hm rfl,
     last_at (b := 2) (bm := 3) (M := (mF7 M z g)) rfl rfl,
     one0 (a := acM (mF7 M z g)) (m := mo) (xo := 8) (g := gh1 z g) f7 (w7 H) H.hm (show z < 9223372036854775808 by have := H.hz; omega) (⟨true, rfl⟩) (⟨true, rfl⟩) (⟨false, rfl⟩),
     fs2y_at (b := 2) (bm := 3) (xa := 16) (xd := 15) (xk := 14) (M := (mF7 M z g)) (mo := mo) (g0 := g) (z := z) hlt (by have := H.hm; omega) ⟨rfl, rfl, rfl, rfl, rfl, ⟨_, rfl⟩, by decide, by decide, (l7 H)⟩,
     last_at (b := 2) (bm := 3) (M := (mY8 M z g)) rfl rfl,
     nil0 (a := acM (mY8 M z g)) (m := mo) (fun y => (fy8 H hlt false y).trans (if_neg (by simp))) (wy8 H) H.hm rfl,
     last_at (b := 2) (bm := 3) (M := (mY8 M z g)) rfl rfl,
     one2 (a := acM (mY8 M z g)) (m := mo) (xo := 8) (g := gh1 z g) (fy8 H hlt) hold (wy8 H) H.hm (show z < 9223372036854775808 by have := H.hz; omega) (⟨true, rfl⟩) (⟨true, rfl⟩) (⟨false, rfl⟩),
     fs3_at (b := 2) (bm := 3) (xa := 16) (xd := 15) (xk := 14) (M := (mY8 M z g)) (mo := mo) (g1 := g + 1) (z := z) H.hz (by rw [Y8_o H (by decide)]; exact H.sg) ⟨rfl, rfl, rfl, rfl, rfl, ⟨_, rfl⟩, by decide, by decide, (ly8 H)⟩,
     last_at (b := 2) (bm := 3) (M := (mY9 M z g)) rfl rfl,
     nil0 (a := acM (mY9 M z g)) (m := mo) (fun y => fy9 false y) (wy9 H) H.hm rfl,
     last_at (b := 2) (bm := 3) (M := (mY9 M z g)) rfl rfl,
     one0 (a := acM (mY9 M z g)) (m := mo) (xo := 8) (g := gh1 z g) fy9 (wy9 H) H.hm (show z < 9223372036854775808 by have := H.hz; omega) (⟨true, rfl⟩) (⟨true, rfl⟩) (⟨false, rfl⟩),
     fs4_e (b := 2) (bm := 3) (xa := 16) (xd := 17) (M := (mY9 M z g)) (z := z) e10 ⟨rfl, rfl, rfl, rfl, ⟨_, rfl⟩, by decide, by decide, (ly9 H)⟩,
     last_at (b := 2) (bm := 3) (M := (mY10 M z g)) rfl rfl,
     nil0 (a := acM (mY10 M z g)) (m := mo) (fun y => fy10 false y) (wy10 H) H.hm rfl,
     last_at (b := 2) (bm := 3) (M := (mY10 M z g)) rfl rfl,
     one0 (a := acM (mY10 M z g)) (m := mo) (xo := 8) (g := gh1 z g) fy10 (wy10 H) H.hm (show z < 9223372036854775808 by have := H.hz; omega) (⟨true, rfl⟩) (⟨true, rfl⟩) (⟨false, rfl⟩),
     fs5_at (b := 2) (bm := 3) (xa := 16) (xd := 17) (M := (mY10 M z g)) (w0 := (getW M.ms aF)) (z := z) (H.lt _) ⟨rfl, rfl, rfl, rfl, ⟨_, rfl⟩, by decide, by decide, (ly10 H)⟩,
     last_at (b := 2) (bm := 3) (M := (mY11 M z g)) rfl rfl,
     nil0 (a := acM (mY11 M z g)) (m := mo) (fun y => fy11 false y) (wy11 H) H.hm rfl,
     last_at (b := 2) (bm := 3) (M := (mY11 M z g)) rfl rfl,
     one0 (a := acM (mY11 M z g)) (m := mo) (xo := 8) (g := gh1 z g) fy11 (wy11 H) H.hm (show z < 9223372036854775808 by have := H.hz; omega) (⟨true, rfl⟩) (⟨true, rfl⟩) (⟨false, rfl⟩),
     fs6_at (b := 2) (bm := 3) (xa := 16) (xd := 17) (M := (mY11 M z g)) (w0 := (getW M.ms aF)) (z := z) (H.lt _) H.hz (Y11_F H) ⟨rfl, rfl, rfl, rfl, ⟨_, rfl⟩, by decide, by decide, (ly11 H)⟩,
     last_at (b := 2) (bm := 3) (M := (mY12 M z g)) rfl rfl,
     nil0 (a := acM (mY12 M z g)) (m := mo) (fun y => fy12 false y) (wy12 H) H.hm rfl,
     last_at (b := 2) (bm := 3) (M := (mY12 M z g)) rfl rfl,
     one0 (a := acM (mY12 M z g)) (m := mo) (xo := 8) (g := gh1 z g) fy12 (wy12 H) H.hm (show z < 9223372036854775808 by have := H.hz; omega) (⟨true, rfl⟩) (⟨true, rfl⟩) (⟨false, rfl⟩), trivial⟩, rfl, rfl, rfl, rfl, rfl, rfl, rfl, rfl, rfl⟩
theorem frees_g {M : PM} {z : Int} {g mo : Nat} (H : FreeIn M z g mo) (he : g = mo) {oL oh oe oL1 oh1 oe1 p1 p2 : AObj} (hT : Take z g (getW M.ms (aL z 1)) (getW M.ms aEp) (getW M.ms aEra) oL oh oe oL1 oh1 oe1 p1 p2) :
    ∃ s1, Sound Tryz.prog (.call 28 [.ptr 2 0, .ptr 4 0, .agg [.int .i64 z, .int .u32 (Int.ofNat g), .bool false], .int .u32 (Int.ofNat mo), .slice 8 0 1 1] (HF M oL oh oe (.cells false (ghC (gh1 z g))))) ⟨.ret, [.bool true], s1⟩ ∧
      s1.get 2 = some (.cells false ((mG10 M z g).C (.map 3))) ∧ s1.get 3 = some (mapO (mG10 M z g).ms) ∧ s1.get 4 = some (.cells false (gcl 5)) ∧ s1.get 5 = some oL1 ∧ s1.get 6 = some oh1 ∧ s1.get 7 = some oe1 ∧ s1.get 8 = some (.cells false (ghC (gh1 z g))) ∧ s1.get 12 = some p1 ∧ s1.get 13 = some p2 := by
  have hold : holdP (acM (mG8 M z g)).pl (hg (acM (mG8 M z g)).wa) (gh1 z g) = true := by
    have e1 : (acM (mG8 M z g)).pl = z := by
      show ((PM.store _ _ _).a).2.1 = z
      rw [PM.store_a]
      rfl
    have e2 : (acM (mG8 M z g)).wa = mkw 2 g := by
      show (PM.store (mF7 M z g) (aL z 0) _).was = _
      rw [store_ms (mayL H.hz ⟨by omega, by omega⟩)]
      exact F7_0 H
    rw [e1, e2, hg_mkw (by omega) (by have := H.hg; have := H.hm; omega)]
    simp [holdP, gh1]
  have e7 : hg (getW (mR6 M z g).ms (aL z 0)) = g := by
    rw [show getW (mR6 M z g).ms (aL z 0) = mkw 2 g from F7_0 H, hg_mkw (by omega) (by have := H.hg; have := H.hm; omega)]
  have e9 : getW (mG8 M z g).ms aPk = getW M.ms aPk := G8_o H (by decide)
  exact ⟨_, runX_sound mixed none_sound (fr_g z g mo (hdrI 15) (cntI 17) (.cells false (M.C (.map 3))) (mapO M.ms) .dead oL oh oe (.cells false (ghC (gh1 z g))) oL1 oh1 oe1 p1 p2 (.cells false (gcl 5)) (.cells false ((mR1 M).C (.map 3))) (mapO (mR1 M).ms) (.cells false ((mR2 M).C (.map 3))) (mapO (mR2 M).ms) (.cells false ((mR3 M z).C (.map 3))) (mapO (mR3 M z).ms) (.cells false ((mR4 M z).C (.map 3))) (mapO (mR4 M z).ms) (.cells false ((mR5 M z).C (.map 3))) (mapO (mR5 M z).ms) (.cells false ((mR6 M z g).C (.map 3))) (mapO (mR6 M z g).ms) (.cells false ((mF7 M z g).C (.map 3))) (mapO (mF7 M z g).ms) (.cells false ((mG8 M z g).C (.map 3))) (mapO (mG8 M z g).ms) (.cells false ((mG9 M z g).C (.map 3))) (mapO (mG9 M z g).ms) (.cells false ((mG10 M z g).C (.map 3))) (mapO (mG10 M z g).ms) .dead .dead .dead .dead (.cells false (Rcl 4 2 z g 0 (getW M.ms aEp) 0)) (.cells false (Rcl 4 3 z g 0 (getW M.ms aEp) (getW M.ms aEra))) (.cells false (Rcl 4 4 z g (getW M.ms (aL z 1)) (getW M.ms aEp) (getW M.ms aEra))) (.cells false (Rcl 4 5 z g (getW M.ms (aL z 1)) (getW M.ms aEp) (getW M.ms aEra))) (.cells false (Rcl 4 6 z g (getW M.ms (aL z 1)) (getW M.ms aEp) (getW M.ms aEra))) (.cells false (Rcl 4 0 z g (getW M.ms (aL z 1)) (getW M.ms aEp) (getW M.ms aEra))) (.cells false (Hcl z (nfF 14) g true 0)) (.cells false [.int .u32 (Int.ofNat mo)]) (.cells false (Hcl z (nfF 14) g true 4)) (.cells false [.int .u32 (Int.ofNat mo)]) (.cells false (Ccl (getW M.ms aPk) true)) .dead (.cells false (Ccl (getW M.ms aPk) false)) .dead .dead .dead .dead (.cells false (Ccl 0 false)) (LA (mR1 M).kd (mR1 M).a (mR1 M).was (mR1 M).is (mR1 M).dn) (LA (mR2 M).kd (mR2 M).a (mR2 M).was (mR2 M).is (mR2 M).dn) (LA (mR3 M z).kd (mR3 M z).a (mR3 M z).was (mR3 M z).is (mR3 M z).dn) (LA (mR4 M z).kd (mR4 M z).a (mR4 M z).was (mR4 M z).is (mR4 M z).dn) (LA (mR5 M z).kd (mR5 M z).a (mR5 M z).was (mR5 M z).is (mR5 M z).dn) (LA (mR6 M z g).kd (mR6 M z g).a (mR6 M z g).was (mR6 M z g).is (mR6 M z g).dn) (LA (mF7 M z g).kd (mF7 M z g).a (mF7 M z g).was (mF7 M z g).is (mF7 M z g).dn) (LA (mG8 M z g).kd (mG8 M z g).a (mG8 M z g).was (mG8 M z g).is (mG8 M z g).dn) (LA (mG9 M z g).kd (mG9 M z g).a (mG9 M z g).was (mG9 M z g).is (mG9 M z g).dn) (LA (mG10 M z g).kd (mG10 M z g).a (mG10 M z g).was (mG10 M z g).is (mG10 M z g).dn) [] [])
    ⟨by have := H.hz; simp [Qst.ok]; omega,
     by have := H.hz; simp [Qst.ok]; omega,
     rs1_at (b := 2) (bm := 3) (xa := 11) (xg := 4) (M := M) (z := z) (g0 := g)  ⟨rfl, rfl, rfl, ⟨_, rfl⟩, by decide, by decide, H.lt⟩,
     last_at (b := 2) (bm := 3) (M := (mR1 M)) rfl rfl,
     one0 (a := acM (mR1 M)) (m := mo) (xo := 8) (g := gh1 z g) f1 (w1 H) H.hm (show z < 9223372036854775808 by have := H.hz; omega) (⟨true, rfl⟩) (⟨true, rfl⟩) (⟨false, rfl⟩),
     rs2_at (b := 2) (bm := 3) (xa := 11) (xg := 4) (M := (mR1 M)) (z := z) (g0 := g) (ep := (getW M.ms aEp)) ⟨rfl, rfl, rfl, ⟨_, rfl⟩, by decide, by decide, (l1 H)⟩,
     last_at (b := 2) (bm := 3) (M := (mR2 M)) rfl rfl,
     one0 (a := acM (mR2 M)) (m := mo) (xo := 8) (g := gh1 z g) f2 (w2 H) H.hm (show z < 9223372036854775808 by have := H.hz; omega) (⟨true, rfl⟩) (⟨true, rfl⟩) (⟨false, rfl⟩),
     rs3_at (b := 2) (bm := 3) (xa := 11) (xg := 4) (M := (mR2 M)) (z := z) (g0 := g) (ep := (getW M.ms aEp)) (er := (getW M.ms aEra)) ⟨rfl, rfl, rfl, ⟨_, rfl⟩, by decide, by decide, (l2 H)⟩,
     last_at (b := 2) (bm := 3) (M := (mR3 M z)) rfl rfl,
     one0 (a := acM (mR3 M z)) (m := mo) (xo := 8) (g := gh1 z g) f3 (w3 H) H.hm (show z < 9223372036854775808 by have := H.hz; omega) (⟨true, rfl⟩) (⟨true, rfl⟩) (⟨false, rfl⟩),
     rs4_at (b := 2) (bm := 3) (xa := 11) (xg := 4) (M := (mR3 M z)) (z := z) (g0 := g) (bi := (getW M.ms (aL z 1))) (ep := (getW M.ms aEp)) (er := (getW M.ms aEra)) ⟨rfl, rfl, rfl, ⟨_, rfl⟩, by decide, by decide, (l3 H)⟩,
     last_at (b := 2) (bm := 3) (M := (mR4 M z)) rfl rfl,
     one0 (a := acM (mR4 M z)) (m := mo) (xo := 8) (g := gh1 z g) f4 (w4 H) H.hm (show z < 9223372036854775808 by have := H.hz; omega) (⟨true, rfl⟩) (⟨true, rfl⟩) (⟨false, rfl⟩),
     rs5_at (b := 2) (bm := 3) (xa := 11) (xg := 4) (M := (mR4 M z)) (z := z) (g0 := g) (bi := (getW M.ms (aL z 1))) (ep := (getW M.ms aEp)) (er := (getW M.ms aEra)) ⟨rfl, rfl, rfl, ⟨_, rfl⟩, by decide, by decide, (l4 H)⟩,
     last_at (b := 2) (bm := 3) (M := (mR5 M z)) rfl rfl,
     one0 (a := acM (mR5 M z)) (m := mo) (xo := 8) (g := gh1 z g) f5 (w5 H) H.hm (show z < 9223372036854775808 by have := H.hz; omega) (⟨true, rfl⟩) (⟨true, rfl⟩) (⟨false, rfl⟩),
     hT _ _ _ _ _,
     last_at (b := 2) (bm := 3) (M := (mR6 M z g)) rfl rfl,
     one0 (a := acM (mR6 M z g)) (m := mo) (xo := 8) (g := gh1 z g) (f6 H) (w6 H) H.hm (show z < 9223372036854775808 by have := H.hz; omega) (⟨true, rfl⟩) (⟨true, rfl⟩) (⟨false, rfl⟩),
     by have := H.hz; simp [Qst.ok]; omega,
     by have := H.hz; simp [Qst.ok]; omega,
     fs1_e (b := 2) (bm := 3) (xa := 16) (xd := 15) (xk := 14) (M := (mR6 M z g)) (mo := mo) (z := z) e7 ⟨rfl, rfl, rfl, rfl, rfl, ⟨_, rfl⟩, by decide, by decide, (l6 H)⟩,
     last_at (b := 2) (bm := 3) (M := (mF7 M z g)) rfl rfl,
     nil0 (a := acM (mF7 M z g)) (m := mo) (fun y => f7 false y) (w7 H) H.hm rfl,
     last_at (b := 2) (bm := 3) (M := (mF7 M z g)) rfl rfl,
     one0 (a := acM (mF7 M z g)) (m := mo) (xo := 8) (g := gh1 z g) f7 (w7 H) H.hm (show z < 9223372036854775808 by have := H.hz; omega) (⟨true, rfl⟩) (⟨true, rfl⟩) (⟨false, rfl⟩),
     fs2g_at (b := 2) (bm := 3) (xa := 16) (xd := 15) (xk := 14) (M := (mF7 M z g)) (mo := mo) (g0 := g) (z := z) (Nat.le_of_eq he.symm) (by have := H.hm; omega) H.hz ⟨rfl, rfl, rfl, rfl, rfl, ⟨_, rfl⟩, by decide, by decide, (l7 H)⟩,
     last_at (b := 2) (bm := 3) (M := (mG8 M z g)) rfl rfl,
     nil0 (a := acM (mG8 M z g)) (m := mo) (fun y => (fg8 H he false y).trans (if_neg (by simp))) (wg8 H) H.hm rfl,
     last_at (b := 2) (bm := 3) (M := (mG8 M z g)) rfl rfl,
     one2 (a := acM (mG8 M z g)) (m := mo) (xo := 8) (g := gh1 z g) (fg8 H he) hold (wg8 H) H.hm (show z < 9223372036854775808 by have := H.hz; omega) (⟨true, rfl⟩) (⟨true, rfl⟩) (⟨false, rfl⟩),
     fg3_e (b := 2) (bm := 3) (xa := 16) (xd := 17) (M := (mG8 M z g)) (z := z) e9 ⟨rfl, rfl, rfl, rfl, ⟨_, rfl⟩, by decide, by decide, (lg8 H)⟩,
     last_at (b := 2) (bm := 3) (M := (mG9 M z g)) rfl rfl,
     nil0 (a := acM (mG9 M z g)) (m := mo) (fun y => fg9 false y) (wg9 H) H.hm rfl,
     last_at (b := 2) (bm := 3) (M := (mG9 M z g)) rfl rfl,
     one0 (a := acM (mG9 M z g)) (m := mo) (xo := 8) (g := gh1 z g) fg9 (wg9 H) H.hm (show z < 9223372036854775808 by have := H.hz; omega) (⟨true, rfl⟩) (⟨true, rfl⟩) (⟨false, rfl⟩),
     fg4_at (b := 2) (bm := 3) (xa := 16) (xd := 17) (M := (mG9 M z g)) (n0 := (getW M.ms aPk)) (z := z) H.pk (G8_o H (by decide)) ⟨rfl, rfl, rfl, rfl, ⟨_, rfl⟩, by decide, by decide, (lg9 H)⟩,
     last_at (b := 2) (bm := 3) (M := (mG10 M z g)) rfl rfl,
     nil0 (a := acM (mG10 M z g)) (m := mo) (fun y => fg10 false y) (wg10 H) H.hm rfl,
     last_at (b := 2) (bm := 3) (M := (mG10 M z g)) rfl rfl,
     one0 (a := acM (mG10 M z g)) (m := mo) (xo := 8) (g := gh1 z g) fg10 (wg10 H) H.hm (show z < 9223372036854775808 by have := H.hz; omega) (⟨true, rfl⟩) (⟨true, rfl⟩) (⟨false, rfl⟩), trivial⟩, rfl, rfl, rfl, rfl, rfl, rfl, rfl, rfl, rfl⟩
/-! ### frees, wherever it is called -/
/-- The memory behind it. -/
def fM (M : PM) (z : Int) (g mo : Nat) : PM := if g < mo then mY12 M z g else mG10 M z g
theorem frees_c {M : PM} {z : Int} {g mo : Nat} (H : FreeIn M z g mo) {oL oh oe oL1 oh1 oe1 p1 p2 : AObj} (hT : Take z g (getW M.ms (aL z 1)) (getW M.ms aEp) (getW M.ms aEra) oL oh oe oL1 oh1 oe1 p1 p2) :
    ∃ s1, Sound Tryz.prog (.call 28 [.ptr 2 0, .ptr 4 0, .agg [.int .i64 z, .int .u32 (Int.ofNat g), .bool false], .int .u32 (Int.ofNat mo), .slice 8 0 1 1] (HF M oL oh oe (.cells false (ghC (gh1 z g))))) ⟨.ret, [.bool true], s1⟩ ∧
      s1.get 2 = some (.cells false ((fM M z g mo).C (.map 3))) ∧ s1.get 3 = some (mapO (fM M z g mo).ms) ∧ s1.get 4 = some (.cells false (gcl 5)) ∧ s1.get 5 = some oL1 ∧ s1.get 6 = some oh1 ∧ s1.get 7 = some oe1 ∧ s1.get 8 = some (.cells false (ghC (gh1 z g))) ∧ s1.get 12 = some p1 ∧ s1.get 13 = some p2 := by
  unfold fM
  by_cases h : g < mo
  · rw [if_pos h]
    exact frees_y H h hT
  · rw [if_neg h]
    exact frees_g H (by have := H.hg; omega) hT
def pF (b bm xg xl bh be xo : Nat) (n : Nat) : Nat → Nat := pR 9 [12, 13] (pL 2 [b, bm, xg, xl, bh, be, xo]) n
theorem frees_gen {s : AS} {b bm xg xl bh be xo : Nat} {M : PM} {z : Int} {g mo : Nat} (H : FreeIn M z g mo) {oL oh oe oL1 oh1 oe1 p1 p2 : AObj} (hT : Take z g (getW M.ms (aL z 1)) (getW M.ms aEp) (getW M.ms aEra) oL oh oe oL1 oh1 oe1 p1 p2)
    (hH : Here s [b, bm, xg, xl, bh, be, xo]) (hb : s.get b = some (.cells false (M.C (.map bm)))) (hm : s.get bm = some (mapO M.ms)) (hg : s.get xg = some (.cells false (gcl xl))) (hl : s.get xl = some (oL.ren (pL 2 [b, bm, xg, xl, bh, be, xo]))) (hh : s.get bh = some (oh.ren (pL 2 [b, bm, xg, xl, bh, be, xo]))) (he : s.get be = some (oe.ren (pL 2 [b, bm, xg, xl, bh, be, xo]))) (ho : s.get xo = some (.cells false (ghC (gh1 z g))))
    (nL : oL.rw = true ∧ oL.names (fun c => Nat.blt c 9) = true) (nh : oh.rw = true ∧ oh.names (fun c => Nat.blt c 9) = true) (ne : oe.rw = true ∧ oe.names (fun c => Nat.blt c 9) = true)
    (nL1 : (oL1.rw = true ∨ oL1 = .dead) ∧ oL1.names (pN 9 [12, 13]) = true) (nh1 : (oh1.rw = true ∨ oh1 = .dead) ∧ oh1.names (pN 9 [12, 13]) = true) (ne1 : (oe1.rw = true ∨ oe1 = .dead) ∧ oe1.names (pN 9 [12, 13]) = true) (np1 : p1.rw = true ∧ p1.names (pN 9 [12, 13]) = true) (np2 : p2.rw = true ∧ p2.names (pN 9 [12, 13]) = true) :
    Sound Tryz.prog (.call 28 [.ptr b 0, .ptr xg 0, .agg [.int .i64 z, .int .u32 (Int.ofNat g), .bool false], .int .u32 (Int.ofNat mo), .slice xo 0 1 1] s) ⟨.ret, [.bool true],
      ((((((((s.set b (.cells false ((fM M z g mo).C (.map bm)))).set bm (mapO (fM M z g mo).ms)).set xg (.cells false (gcl xl))).set xl (oL1.ren (pF b bm xg xl bh be xo s.nx))).set bh (oh1.ren (pF b bm xg xl bh be xo s.nx))).set be (oe1.ren (pF b bm xg xl bh be xo s.nx))).set xo (.cells false (ghC (gh1 z g)))).push (p1.ren (pF b bm xg xl bh be xo s.nx))).push (p2.ren (pF b bm xg xl bh be xo s.nx))⟩ := by
  obtain ⟨s1, hr, e2, e3, e4, e5, e6, e7, e8, e12, e13⟩ := frees_c H hT
  have ob : ∀ {k : Nat} {o : AObj}, s1.get k = some o → objAt s1 k = o := fun h => by simp [objAt, h]
  have o2 := ob e2
  have o3 := ob e3
  have o4 := ob e4
  have o5 := ob e5
  have o6 := ob e6
  have o7 := ob e7
  have o8 := ob e8
  have o12 := ob e12
  have o13 := ob e13
  have hp := Sound.putFG (P := Tryz.prog) (f := 28) (Fz := [(0, wf), (1, lf)]) (bs0 := [(2, .cells false (M.C (.map 3))), (3, mapO M.ms), (4, .cells false (gcl 5)), (5, oL), (6, oh), (7, oe), (8, .cells false (ghC (gh1 z g)))]) (n0 := 9) (nx0 := 9) hr (pL 2 [b, bm, xg, xl, bh, be, xo]) (globL (n := 2) (m := 9) (by omega) (by omega)) [12, 13] s (hH.frz (n := 2) (m := 9) (by omega) (by omega) (.inr rfl))
    ⟨⟨show 2 < 9 by decide, rfl, rfl, rfl, hb, by rw [o2]; exact .inl rfl, by rw [o2]; rfl⟩, ⟨show 3 < 9 by decide, rfl, mapO_names _ _, rfl, by rw [mapO_ren]; exact hm, by rw [o3]; exact .inl rfl, by rw [o3]; exact mapO_names _ _⟩, ⟨show 4 < 9 by decide, rfl, rfl, rfl, hg, by rw [o4]; exact .inl rfl, by rw [o4]; rfl⟩,
      ⟨show 5 < 9 by decide, nL.1, nL.2, rfl, hl, by rw [o5]; exact nL1.1, by rw [o5]; exact nL1.2⟩, ⟨show 6 < 9 by decide, nh.1, nh.2, rfl, hh, by rw [o6]; exact nh1.1, by rw [o6]; exact nh1.2⟩, ⟨show 7 < 9 by decide, ne.1, ne.2, rfl, he, by rw [o7]; exact ne1.1, by rw [o7]; exact ne1.2⟩, ⟨show 8 < 9 by decide, rfl, rfl, rfl, ho, by rw [o8]; exact .inl rfl, by rw [o8]; rfl⟩, trivial⟩
    (pL_inj (n := 2) hH.nd) (show [2, 3, 4, 5, 6, 7, 8].Nodup by decide) (by decide) (fun k hk => by
      simp only [List.mem_cons, List.not_mem_nil, or_false] at hk
      rcases hk with rfl | rfl
      · rw [o12]; exact ⟨by decide, np1.1, np1.2⟩
      · rw [o13]; exact ⟨by decide, np2.1, np2.2⟩) rfl rfl
  simp only [List.map_cons, List.map_nil, setL, pushL, o2, o3, o4, o5, o6, o7, o8, o12, o13, mapO_ren] at hp
  exact hp
/-- How the guard's list lies: its refs, its entries. -/
structure Rows (l : List (Int × Nat)) (R : List AV) : Prop where
  len : R.length = l.length * 6
  one : R.all AV.one = true
  nm : namess (fun _ => false) R = true
  ne : l ≠ []
def Lst (l : List (Int × Nat)) (bh be : Nat) (oL oh oe : AObj) : Prop :=
  (l = [] ∧ oL = .cells false [.nilSlice, .nilMap] ∧ oh = ph ∧ oe = ph) ∨ ∃ R, Rows l R ∧ oL = .cells false [.osl be 0 l.length 6, .map bh] ∧ oh = hadO l ∧ oe = .cells false R
/-- How it lies behind that: where the new ones come to lie. -/
def Nxt (l : List (Int × Nat)) (bh be nx : Nat) (oL oh oe p1 p2 : AObj) : Prop :=
  ∃ R, Rows l R ∧ ((oL = .cells false [.osl (nx + 1) 0 l.length 6, .map nx] ∧ oh = ph ∧ oe = ph ∧ p1 = hadO l ∧ p2 = .cells false R) ∨
    (oL = .cells false [.osl nx 0 l.length 6, .map bh] ∧ oh = hadO l ∧ oe = .dead ∧ p1 = .cells false R ∧ p2 = ph) ∨
    (oL = .cells false [.osl be 0 l.length 6, .map bh] ∧ oh = hadO l ∧ oe = .cells false R ∧ p1 = ph ∧ p2 = ph))
theorem ecl_rows {l : List (Int × Nat)} {R : List AV} (h : Rows l R) (x : Int × Nat) (z : Int) (g bi ep er : Nat) : Rows (l ++ [x]) (R ++ Ecl z g bi ep er) where
  len := by rw [List.length_append, List.length_append, h.len]; show _ + 6 = (_ + 1) * 6; omega
  one := by rw [List.all_append, h.one]; rfl
  nm := by rw [namess_app, h.nm]; rfl
  ne := by simp
theorem frees_at {s : AS} {b bm xg xl bh be xo : Nat} {M : PM} {z : Int} {g mo : Nat} (H : FreeIn M z g mo) {l : List (Int × Nat)} {oL oh oe : AObj} (hl : Lst l bh be oL oh oe) (hk : l.length < 1000000)
    (hH : Here s [b, bm, xg, xl, bh, be, xo]) (hb : s.get b = some (.cells false (M.C (.map bm)))) (hm : s.get bm = some (mapO M.ms)) (hg : s.get xg = some (.cells false (gcl xl))) (hL : s.get xl = some oL) (hh : s.get bh = some oh) (he : s.get be = some oe) (ho : s.get xo = some (.cells false (ghC (gh1 z g)))) :
    ∃ l' oL1 oh1 oe1 p1 p2, l'.length ≤ l.length + 1 ∧ Nxt l' bh be s.nx oL1 oh1 oe1 p1 p2 ∧ Sound Tryz.prog (.call 28 [.ptr b 0, .ptr xg 0, .agg [.int .i64 z, .int .u32 (Int.ofNat g), .bool false], .int .u32 (Int.ofNat mo), .slice xo 0 1 1] s) ⟨.ret, [.bool true],
      ((((((((s.set b (.cells false ((fM M z g mo).C (.map bm)))).set bm (mapO (fM M z g mo).ms)).set xg (.cells false (gcl xl))).set xl oL1).set bh oh1).set be oe1).set xo (.cells false (ghC (gh1 z g)))).push p1).push p2⟩ := by
  have hg32 : g < 4294967296 := by have := H.hg; have := H.hm; omega
  have f12 : pF b bm xg xl bh be xo s.nx 12 = s.nx := rfl
  have f13 : pF b bm xg xl bh be xo s.nx 13 = s.nx + 1 := rfl
  have f6 : pF b bm xg xl bh be xo s.nx 6 = bh := rfl
  have f7 : pF b bm xg xl bh be xo s.nx 7 = be := rfl
  rcases hl with ⟨rfl, rfl, rfl, rfl⟩ | ⟨R, hR, rfl, rfl, rfl⟩
  · have h := frees_gen H (take_a z g _ _ _ H.hz hg32) hH hb hm hg hL hh he ho ⟨rfl, rfl⟩ ⟨rfl, rfl⟩ ⟨rfl, rfl⟩ ⟨.inl rfl, rfl⟩ ⟨.inl rfl, rfl⟩ ⟨.inl rfl, rfl⟩ ⟨rfl, hadO_names _ _⟩ ⟨rfl, rfl⟩
    refine ⟨[(z, g)], .cells false [.osl (s.nx + 1) 0 1 6, .map s.nx], ph, ph, hadO [(z, g)], .cells false (Ecl z g (getW M.ms (aL z 1)) (getW M.ms aEp) (getW M.ms aEra)), by simp, ⟨_, ⟨rfl, rfl, rfl, by simp⟩, .inl ⟨rfl, rfl, rfl, rfl, rfl⟩⟩, ?_⟩
    rw [hadO_ren] at h
    exact h
  · by_cases hin : (z, g) ∈ l
    · have h := frees_gen H (take_c z g _ _ _ H.hz hg32 l R hR.nm hin) hH hb hm hg hL (by rw [hadO_ren]; exact hh) (by show _ = some (AObj.cells false (rens _ R)); rw [rens_no hR.nm]; exact he) ho ⟨rfl, rfl⟩ ⟨rfl, hadO_names _ _⟩ ⟨rfl, namess_sub (fun _ h => by cases h) hR.nm⟩ ⟨.inl rfl, rfl⟩ ⟨.inl rfl, hadO_names _ _⟩ ⟨.inl rfl, namess_sub (fun _ h => by cases h) hR.nm⟩ ⟨rfl, rfl⟩ ⟨rfl, rfl⟩
      refine ⟨l, .cells false [.osl be 0 l.length 6, .map bh], hadO l, .cells false R, ph, ph, by omega, ⟨R, hR, .inr (.inr ⟨rfl, rfl, rfl, rfl, rfl⟩)⟩, ?_⟩
      rw [hadO_ren, show AObj.ren (pF b bm xg xl bh be xo s.nx) (.cells false R) = .cells false R by show AObj.cells false (rens _ R) = _; rw [rens_no hR.nm]] at h
      exact h
    · have hR' := ecl_rows hR (z, g) z g (getW M.ms (aL z 1)) (getW M.ms aEp) (getW M.ms aEra)
      have h := frees_gen H (take_b z g _ _ _ H.hz hg32 l R hR.len hR.one hR.nm (by omega) hin) hH hb hm hg hL (by rw [hadO_ren]; exact hh) (by show _ = some (AObj.cells false (rens _ R)); rw [rens_no hR.nm]; exact he) ho ⟨rfl, rfl⟩ ⟨rfl, hadO_names _ _⟩ ⟨rfl, namess_sub (fun _ h => by cases h) hR.nm⟩ ⟨.inl rfl, rfl⟩ ⟨.inl rfl, hadO_names _ _⟩ ⟨.inr rfl, rfl⟩ ⟨rfl, namess_sub (fun _ h => by cases h) hR'.nm⟩ ⟨rfl, rfl⟩
      refine ⟨l ++ [(z, g)], .cells false [.osl s.nx 0 (l.length + 1) 6, .map bh], hadO (l ++ [(z, g)]), .dead, .cells false (R ++ Ecl z g (getW M.ms (aL z 1)) (getW M.ms aEp) (getW M.ms aEra)), ph, by simp, ⟨_, hR', .inr (.inl ⟨by rw [List.length_append]; rfl, rfl, rfl, rfl, rfl⟩)⟩, ?_⟩
      rw [hadO_ren, show AObj.ren (pF b bm xg xl bh be xo s.nx) (.cells false (R ++ Ecl z g (getW M.ms (aL z 1)) (getW M.ms aEp) (getW M.ms aEra))) = .cells false (R ++ Ecl z g (getW M.ms (aL z 1)) (getW M.ms aEp) (getW M.ms aEra)) by show AObj.cells false (rens _ _) = _; rw [rens_no hR'.nm]] at h
      exact h
/-! ### a ref's word; what its dereference is found to be -/
theorem w31_run (z : Int) (g w : Nat) (mk : Bool) (o4 o5 o41 : AObj) : runX Tryz.prog none_ 60 27 (.call 27 [.ptr 4 0, .agg [.int .i64 z, .int .u32 (Int.ofNat g), .bool mk]] ⟨⟨[(4, o4), (5, o5)], 2, none, []⟩, 6⟩) [.call 27 1 4 (iw w) (fun s => s.set 4 o41)] = some ({ e := .ret, ts := [iw w], s := ⟨⟨[(4, o41), (5, o5)], 2, none, [4]⟩, 7⟩ }, [], [Qst.snd (Task.call 55 [.ptr 4 0, .agg [i8 9, .int .i64 z, ii 0]] ⟨⟨[(6, .cells false [.int .i64 z, .int .u32 (Int.ofNat g), .bool mk]), (4, o4), (5, o5)], 3, none, []⟩, 7⟩) { e := .ret, ts := [iw w], s := ⟨⟨[(6, .cells false [.int .i64 z, .int .u32 (Int.ofNat g), .bool mk]), (4, o41), (5, o5)], 3, none, [4]⟩, 7⟩ }]) := by kernel_rfl
theorem dr_live (z : Int) (g w : Nat) (mk : Bool) : runX Tryz.prog none_ 60 26 (.call 26 [.agg [.int .i64 z, .int .u32 (Int.ofNat g), .bool mk], iw w] (startS Tryz.prog G)) [.pure 26 1 1 G (.tuple [i8 1, .int .u32 (Int.ofNat g)]), .val 26 2 10 (.bool false)] = some ({ e := .ret, ts := [i8 0], s := ⟨⟨[(0, .cells true wf)], 1, none, []⟩, 3⟩ }, [], [Qst.pure [(0, wf)] 61 [iw w] (.tuple [i8 1, .int .u32 (Int.ofNat g)]), Qst.val (some (.bool (Int.ofNat g != Int.ofNat g))) (.bool false)]) := by kernel_rfl
theorem dr_stale (z : Int) (g w s h : Nat) (mk : Bool) : runX Tryz.prog none_ 60 26 (.call 26 [.agg [.int .i64 z, .int .u32 (Int.ofNat g), .bool mk], iw w] (startS Tryz.prog G)) [.pure 26 1 1 G (.tuple [i8 s, .int .u32 (Int.ofNat h)]), .val 26 2 1 (.bool true), .val 26 2 4 (.bool true)] = some ({ e := .ret, ts := [i8 4], s := ⟨⟨[(0, .cells true wf)], 1, none, []⟩, 3⟩ }, [], [Qst.pure [(0, wf)] 61 [iw w] (.tuple [i8 s, .int .u32 (Int.ofNat h)]), Qst.val (some (.bool (Int.ofNat s != Int.ofNat 1))) (.bool true), Qst.val (some (.bool (Int.ofNat s != Int.ofNat 2))) (.bool true)]) := by kernel_rfl
theorem word_at {s : AS} {b bm : Nat} {M : PM} (hb : s.get b = some (.cells false (M.C (.map bm)))) (hm : s.get bm = some (mapO M.ms)) (z : Int) (g : Nat) (mk : Bool) :
    Sound Tryz.prog (.call 27 [.ptr b 0, .agg [.int .i64 z, .int .u32 (Int.ofNat g), .bool mk]] s) ⟨.ret, [.int .u64 (Int.ofNat (getW M.ms (aL z 0)))], (s.set b (.cells false ((M.load (aL z 0)).C (.map bm)))).set bm (mapO M.ms)⟩ := by
  have hne : b ≠ bm := fun e => by
    subst e
    rw [hb] at hm
    simp [mapO] at hm
  have hr := runX_sound mixed none_sound (w31_run z g (getW M.ms (aL z 0)) mk (.cells false (M.C (.map 5))) (mapO M.ms) (.cells false ((M.load (aL z 0)).C (.map 5)))) ⟨pload_at (b := 4) (bm := 5) (m := M) rfl rfl (aL z 0), trivial⟩
  have := put2 hr (c := M.C (.map 5)) (c' := (M.load (aL z 0)).C (.map 5)) (o := mapO M.ms) (o' := mapO M.ms) rfl rfl rfl (mapO_names _ _) rfl rfl (mapO_names _ _) (.inl rfl) rfl rfl hne (s := s) hb (by rw [mapO_ren]; exact hm)
  rw [mapO_ren] at this
  exact this
theorem deref_live {z : Int} {g w : Nat} {mk : Bool} (hw : w < 18446744073709551616) (h1 : hs w = 1) (h2 : hg w = g) (s : AS) (hG : hasG s G = true) : Sound Tryz.prog (.call 26 [.agg [.int .i64 z, .int .u32 (Int.ofNat g), .bool mk], .int .u64 (Int.ofNat w)] s) ⟨.ret, [.int .u8 (Int.ofNat 0)], s⟩ := by
  have aq := phead w hw
  unfold headT at aq
  rw [h1, h2] at aq
  exact Sound.pure (G := G) (runX_sound mixed none_sound (dr_live z g w mk) ⟨aq, by simp [Qst.ok], trivial⟩) (by kernel_rfl) rfl rfl hG
theorem deref_stale {z : Int} {g w : Nat} {mk : Bool} (hw : w < 18446744073709551616) (h1 : hs w ≠ 1) (h2 : hs w ≠ 2) (s : AS) (hG : hasG s G = true) : Sound Tryz.prog (.call 26 [.agg [.int .i64 z, .int .u32 (Int.ofNat g), .bool mk], .int .u64 (Int.ofNat w)] s) ⟨.ret, [.int .u8 (Int.ofNat 4)], s⟩ := by
  have aq := phead w hw
  exact Sound.pure (G := G) (runX_sound mixed none_sound (dr_stale z g w (hs w) (hg w) mk) ⟨aq, by simp [Qst.ok]; omega, by simp [Qst.ok]; omega, trivial⟩) (by kernel_rfl) rfl rfl hG
end Go.Proofs.YtimnagafechmbaaGreatDoor.ghostsArena
