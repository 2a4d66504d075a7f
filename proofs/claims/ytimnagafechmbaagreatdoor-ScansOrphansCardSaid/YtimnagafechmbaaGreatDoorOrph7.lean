/- The snapshot of a Scan, its sweep, and what it frees. Conditions: those that each theorem names, and no others. -/
import Derived.Test.YtimnagafechmbaaGreatDoorOrph6
namespace Go.Proofs.YtimnagafechmbaaGreatDoor.scansOrphans
open Go Go.Mini
/-! ### a Scan's snapshot, word by word -/
theorem step_tab {f : FuncId} {args : List AV} {v : AV} {n0 : Nat} {bs bs' : List (Nat × AObj)} {κ : Nat → Nat} (tab : List (Nat × AObj)) (h : ∃ e s1, Sound Tryz.prog (.call f args (canF bs Fz0 n0 40)) ⟨e, [v], s1⟩ ∧ ∀ y ∈ tab, s1.get y.1 = some y.2) (new : List Nat) (K : Kan Tryz.prog bs Fz0 40) (hn : new.Nodup)
    (hnew : ∀ b ∈ new, 40 ≤ b ∧ ∃ (i : Nat) (o : AObj), tab[i]? = some (b, o) ∧ o.rw = true ∧ o.names (pN 40 new) = true) (hκg : κ 0 = 0 ∧ κ 1 = 1) (hκ : eachX (fun b o => (κ b ∈ bs.map (·.1) ∨ κ b ∈ new) ∧ ∃ i : Nat, tab[i]? = some (κ b, o.ren κ)) bs')
    (hκi : ∀ b ∈ bs'.map (·.1), ∀ c ∈ bs'.map (·.1), κ b = κ c → b = c) (hT : namess (fun b => Nat.blt b 40) args = true) (hold : eachX (fun b _ => ∃ (i : Nat) (o : AObj), tab[i]? = some (b, o) ∧ (o.rw = true ∨ o = .dead) ∧ o.names (pN 40 new) = true) bs) (hv : v.names (fun _ => false) = true) :
    StepF Tryz.prog Fz0 40 f args v bs bs' κ := by
  obtain ⟨e, s1, hr, ht⟩ := h
  have at_ : ∀ {i b o}, tab[i]? = some (b, o) → s1.get b = some o := fun hi => ht _ (List.mem_of_getElem? hi)
  refine step_mk hr new K hn (fun b hb => ?_) (κ_low hκg trivial) (κ_z hκg.1) (eachX_imp hκ fun x hx hh => ⟨hh.1, ?_⟩) hκi hT (eachX_imp hold fun x hx hh => ?_) hv
  · obtain ⟨h1, i, o, h2, h3, h4⟩ := hnew b hb
    have := at_ h2
    simp only [objAt, this]
    exact ⟨h1, h3, h4⟩
  · obtain ⟨i, hi⟩ := hh.2
    exact at_ hi
  · obtain ⟨i, o, h2, h3, h4⟩ := hh
    have := at_ h2
    simp only [objAt, this]
    exact ⟨h3, h4⟩
theorem row_names (p : Nat → Bool) (k : Nat) : ∀ n, namess p (ownRow k n) = true
  | 0 => rfl
  | n + 1 => by
    show namess p (ownRow k n ++ .int .u64 _ :: List.replicate 9 (.int .u64 (Int.ofNat 0))) = true
    rw [namess_app2, row_names p k n]
    rfl
theorem row_ren (κ : Nat → Nat) (k n : Nat) : rens κ (ownRow k n) = ownRow k n := rens_no (row_names _ k n)
def wd (j : Nat) : Nat := bif Nat.beq (j % 10) 0 then 1 else 0
def twB (j m : Nat) (M : PM) (O : AObj) : List (Nat × AObj) := [(4, .cells false (M.C (.map 5))), (5, O), (10, XN tTk m), (11, tkO 174 (.slice 14 0 4 4) (j / 10) (j % 10) 4), (14, .cells false (ownRow ((j + 9) / 10) 4))]
def twQ (j m : Nat) (M M1 : PM) (O : AObj) : List Qst := [.snd (.call 55 [.ptr 4 0, .agg [.int .u8 (Int.ofNat 8), .int .i64 (Int.ofNat (j / 10)), .int .i64 (Int.ofNat (j % 10))]] (canF (twB j m M O) Fz0 6 40)) ⟨.ret, [.int .u64 (Int.ofNat (wd j))], (canF (twB j m M O) Fz0 6 40).set 4 (.cells false (M1.C (.map 5)))⟩]
noncomputable def twR (j m : Nat) (M M1 : PM) (O : AObj) : Option (Res × List Dec × List Qst) := runX Tryz.prog none_ 80 41 (.call 41 [.ptr 10 0, .ptr 4 0] (canF (twB j m M O) Fz0 6 40)) [.call 174 1 15 (.int .u64 (Int.ofNat (wd j))) (fun s => s.set 4 (.cells false (M1.C (.map 5))))]
theorem tw_run (m : Nat) (M M1 : PM) (O : AObj) : ∀ j, j < 39 → (twR j m M M1 O).map (fun x => (x.1.ts, (twB (j + 1) m M1 O).map (fun y => x.1.s.get y.1), x.2.2)) = some ([.bool false], (twB (j + 1) m M1 O).map (fun y => some y.2), twQ j m M M1 O)
  | 0, _ => by kernel_rfl
  | 1, _ => by kernel_rfl
  | 2, _ => by kernel_rfl
  | 3, _ => by kernel_rfl
  | 4, _ => by kernel_rfl
  | 5, _ => by kernel_rfl
  | 6, _ => by kernel_rfl
  | 7, _ => by kernel_rfl
  | 8, _ => by kernel_rfl
  | 9, _ => by kernel_rfl
  | 10, _ => by kernel_rfl
  | 11, _ => by kernel_rfl
  | 12, _ => by kernel_rfl
  | 13, _ => by kernel_rfl
  | 14, _ => by kernel_rfl
  | 15, _ => by kernel_rfl
  | 16, _ => by kernel_rfl
  | 17, _ => by kernel_rfl
  | 18, _ => by kernel_rfl
  | 19, _ => by kernel_rfl
  | 20, _ => by kernel_rfl
  | 21, _ => by kernel_rfl
  | 22, _ => by kernel_rfl
  | 23, _ => by kernel_rfl
  | 24, _ => by kernel_rfl
  | 25, _ => by kernel_rfl
  | 26, _ => by kernel_rfl
  | 27, _ => by kernel_rfl
  | 28, _ => by kernel_rfl
  | 29, _ => by kernel_rfl
  | 30, _ => by kernel_rfl
  | 31, _ => by kernel_rfl
  | 32, _ => by kernel_rfl
  | 33, _ => by kernel_rfl
  | 34, _ => by kernel_rfl
  | 35, _ => by kernel_rfl
  | 36, _ => by kernel_rfl
  | 37, _ => by kernel_rfl
  | 38, _ => by kernel_rfl
  | j + 39, h => absurd h (by omega)
def XE (m : Nat) : AObj := scanO (F3 tLd) 2 m (.slice 16 0 4 4) .nilSlice .nilSlice
def twT (m : Nat) (M1 : PM) (O : AObj) : List (Nat × AObj) := [(4, .cells false (M1.C (.map 5))), (5, O), (10, scanO (.iface tLd (.ptr 44 0)) 2 m (.slice 43 0 4 4) .nilSlice .nilSlice), (11, .cells false [.nilFunc, .slice 14 0 4 4, .int .u64 (Int.ofNat 0), .int .i64 (Int.ofNat 4), .int .i64 (Int.ofNat 0), .int .i64 (Int.ofNat 4)]), (14, .cells false R40), (43, .cells false R40), (44, ldO 1 0)]
theorem tw_end (m : Nat) (M M1 : PM) (O : AObj) : (twR 39 m M M1 O).map (fun x => (x.1.ts, (twT m M1 O).map (fun y => x.1.s.get y.1), x.2.2)) = some ([.bool false], (twT m M1 O).map (fun y => some y.2), twQ 39 m M M1 O) := by kernel_rfl
theorem tw_kan (j m : Nat) (M : PM) : Kan Tryz.prog (twB j m M (mapO M.ms)) Fz0 40 :=
  kan ⟨⟨show 4 < 40 by decide, rfl, rfl, rfl⟩, ⟨show 5 < 40 by decide, rfl, mapO_names _ _, rfl⟩, ⟨show 10 < 40 by decide, rfl, rfl, rfl⟩, ⟨show 11 < 40 by decide, rfl, rfl, rfl⟩, ⟨show 14 < 40 by decide, rfl, row_names _ _ _, rfl⟩, trivial⟩ (show ([4, 5, 10, 11, 14] : List Nat).Nodup by decide) (show 0 ∉ ([4, 5, 10, 11, 14] : List Nat) by decide)
theorem tw_at {M : PM} {m j : Nat} (hj : j < 39) (h : getW M.ms (aTh (Int.ofNat (j / 10)) (Int.ofNat (j % 10))) = wd j) : StepF Tryz.prog Fz0 40 41 [.ptr 10 0, .ptr 4 0] (.bool false) (twB j m M (mapO M.ms)) (twB (j + 1) m (M.load (aTh (Int.ofNat (j / 10)) (Int.ofNat (j % 10)))) (mapO M.ms)) id :=
  step_tab (twB (j + 1) m (M.load (aTh (Int.ofNat (j / 10)) (Int.ofNat (j % 10)))) (mapO M.ms)) (run_at _ (tw_run m M _ (mapO M.ms) j hj) ⟨pload_eq (b := 4) (bm := 5) (m := M) rfl rfl (aTh (Int.ofNat (j / 10)) (Int.ofNat (j % 10))) (wd j) h, trivial⟩) [] (tw_kan j m M) List.nodup_nil (fun _ h => by cases h) ⟨rfl, rfl⟩
    ⟨⟨.inl (show 4 ∈ ([4, 5, 10, 11, 14] : List Nat) by decide), 0, rfl⟩, ⟨.inl (show 5 ∈ ([4, 5, 10, 11, 14] : List Nat) by decide), 1, by rw [mapO_ren]; rfl⟩, ⟨.inl (show 10 ∈ ([4, 5, 10, 11, 14] : List Nat) by decide), 2, rfl⟩, ⟨.inl (show 11 ∈ ([4, 5, 10, 11, 14] : List Nat) by decide), 3, rfl⟩, ⟨.inl (show 14 ∈ ([4, 5, 10, 11, 14] : List Nat) by decide), 4, by show _ = some (14, AObj.cells false (rens _ _)); rw [row_ren]; rfl⟩, trivial⟩
    (fun _ _ _ _ h => h) rfl ⟨⟨0, _, rfl, .inl rfl, rfl⟩, ⟨1, _, rfl, .inl rfl, mapO_names _ _⟩, ⟨2, _, rfl, .inl rfl, rfl⟩, ⟨3, _, rfl, .inl rfl, rfl⟩, ⟨4, _, rfl, .inl rfl, row_names _ _ _⟩, trivial⟩ rfl
def κ2 (a c d e b : Nat) : Nat := bif Nat.beq b a then c else bif Nat.beq b d then e else b
theorem twe_at {M : PM} {m : Nat} (h : getW M.ms (aTh (Int.ofNat 3) (Int.ofNat 9)) = 0) : StepF Tryz.prog Fz0 40 41 [.ptr 10 0, .ptr 4 0] (.bool false) (twB 39 m M (mapO M.ms)) (mem (M.load (aTh (Int.ofNat 3) (Int.ofNat 9))) ++ [(10, XE m), (11, ldO 1 0), (16, .cells false R40)]) (κ2 11 44 16 43) :=
  step_tab (twT m (M.load (aTh (Int.ofNat 3) (Int.ofNat 9))) (mapO M.ms)) (run_at _ (tw_end m M _ (mapO M.ms)) ⟨pload_eq (b := 4) (bm := 5) (m := M) rfl rfl (aTh (Int.ofNat 3) (Int.ofNat 9)) 0 h, trivial⟩) [43, 44] (tw_kan 39 m M) (by decide) (fun b hb => by
      simp only [List.mem_cons, List.not_mem_nil, or_false] at hb
      rcases hb with rfl | rfl
      · exact ⟨by decide, 5, _, rfl, rfl, rfl⟩
      · exact ⟨by decide, 6, _, rfl, rfl, rfl⟩) ⟨rfl, rfl⟩
    ⟨⟨.inl (show 4 ∈ ([4, 5, 10, 11, 14] : List Nat) by decide), 0, rfl⟩, ⟨.inl (show 5 ∈ ([4, 5, 10, 11, 14] : List Nat) by decide), 1, by rw [mapO_ren]; rfl⟩, ⟨.inl (show 10 ∈ ([4, 5, 10, 11, 14] : List Nat) by decide), 2, rfl⟩, ⟨.inr (show 44 ∈ ([43, 44] : List Nat) by decide), 6, rfl⟩, ⟨.inr (show 43 ∈ ([43, 44] : List Nat) by decide), 5, rfl⟩, trivial⟩
    (show ∀ b ∈ ([4, 5, 10, 11, 16] : List Nat), ∀ c ∈ ([4, 5, 10, 11, 16] : List Nat), κ2 11 44 16 43 b = κ2 11 44 16 43 c → b = c by decide) rfl ⟨⟨0, _, rfl, .inl rfl, rfl⟩, ⟨1, _, rfl, .inl rfl, mapO_names _ _⟩, ⟨2, _, rfl, .inl rfl, rfl⟩, ⟨3, _, rfl, .inl rfl, rfl⟩, ⟨4, _, rfl, .inl rfl, rfl⟩, trivial⟩ rfl
end Go.Proofs.YtimnagafechmbaaGreatDoor.scansOrphans
namespace Go.Proofs.YtimnagafechmbaaGreatDoor.scansOrphans
open Go Go.Mini
/-! ### the sweep; the end of a free -/
theorem refs_names (p : Nat → Bool) : ∀ n, namess p (refs n) = true
  | 0 => rfl
  | n + 1 => by
    show namess p (refs n ++ rC n) = true
    rw [namess_app2, refs_names p n]
    rfl
theorem refs_ren (κ : Nat → Nat) (n : Nat) : rens κ (refs n) = refs n := rens_no (refs_names _ n)
theorem namesE_app (p : Nat → Bool) : ∀ (a b : List (AV × AV)), namesE p (a ++ b) = (namesE p a && namesE p b)
  | [], b => rfl
  | x :: a, b => by
    show ((x.1.names p && x.2.names p) && namesE p (a ++ b)) = (((x.1.names p && x.2.names p) && namesE p a) && namesE p b)
    rw [namesE_app p a b, Bool.and_assoc, Bool.and_assoc, Bool.and_assoc]
theorem had_names (p : Nat → Bool) : ∀ n, namesE p (hadL n) = true
  | 0 => rfl
  | n + 1 => by
    show namesE p (hadL n ++ [_]) = true
    rw [namesE_app, had_names p n]
    rfl
def G16 : List (Nat × List AV) := [(0, wf), (16, R40)]
def snV : AV := .agg [.slice 16 0 4 4, .int .u64 (Int.ofNat 0)]
theorem smay_run (e : Nat) (z : Int) : runX Tryz.prog none_ 300 161 (.call 161 [.agg [.int .i64 z, .int .u32 (Int.ofNat 0), .bool false, .int .u64 (Int.ofNat 0), .int .u64 (Int.ofNat 0), .int .u64 (Int.ofNat 0)], .int .u8 (Int.ofNat 2), snV, .int .u64 (Int.ofNat e)] (canF [] G16 2 20)) [] = some ({ e := AExit.ret, ts := [AV.bool true], s := { h := { bs := [(0, AObj.cells true [AV.int IntKind.u64 (Int.ofNat 0), AV.int IntKind.u64 (Int.ofNat 16), AV.int IntKind.u64 (Int.ofNat 16), AV.int IntKind.u64 (Int.ofNat 32), AV.int IntKind.u64 (Int.ofNat 16), AV.int IntKind.u64 (Int.ofNat 48), AV.int IntKind.u64 (Int.ofNat 0), AV.int IntKind.u64 (Int.ofNat 3), AV.int IntKind.u64 (Int.ofNat 3), AV.int IntKind.u64 (Int.ofNat 32), AV.int IntKind.u64 (Int.ofNat 0), AV.int IntKind.u64 (Int.ofNat 3), AV.int IntKind.u64 (Int.ofNat 3), AV.int IntKind.u64 (Int.ofNat 3), AV.int IntKind.u64 (Int.ofNat 6), AV.int IntKind.u64 (Int.ofNat 3), AV.int IntKind.u64 (Int.ofNat 16), AV.int IntKind.u64 (Int.ofNat 48), AV.int IntKind.u64 (Int.ofNat 0), AV.int IntKind.u64 (Int.ofNat 32), AV.int IntKind.u64 (Int.ofNat 32), AV.int IntKind.u64 (Int.ofNat 1)]), (16, AObj.cells true [AV.int IntKind.u64 (Int.ofNat 1), AV.int IntKind.u64 (Int.ofNat 0), AV.int IntKind.u64 (Int.ofNat 0), AV.int IntKind.u64 (Int.ofNat 0), AV.int IntKind.u64 (Int.ofNat 0), AV.int IntKind.u64 (Int.ofNat 0), AV.int IntKind.u64 (Int.ofNat 0), AV.int IntKind.u64 (Int.ofNat 0), AV.int IntKind.u64 (Int.ofNat 0), AV.int IntKind.u64 (Int.ofNat 0), AV.int IntKind.u64 (Int.ofNat 1), AV.int IntKind.u64 (Int.ofNat 0), AV.int IntKind.u64 (Int.ofNat 0), AV.int IntKind.u64 (Int.ofNat 0), AV.int IntKind.u64 (Int.ofNat 0), AV.int IntKind.u64 (Int.ofNat 0), AV.int IntKind.u64 (Int.ofNat 0), AV.int IntKind.u64 (Int.ofNat 0), AV.int IntKind.u64 (Int.ofNat 0), AV.int IntKind.u64 (Int.ofNat 0), AV.int IntKind.u64 (Int.ofNat 1), AV.int IntKind.u64 (Int.ofNat 0), AV.int IntKind.u64 (Int.ofNat 0), AV.int IntKind.u64 (Int.ofNat 0), AV.int IntKind.u64 (Int.ofNat 0), AV.int IntKind.u64 (Int.ofNat 0), AV.int IntKind.u64 (Int.ofNat 0), AV.int IntKind.u64 (Int.ofNat 0), AV.int IntKind.u64 (Int.ofNat 0), AV.int IntKind.u64 (Int.ofNat 0), AV.int IntKind.u64 (Int.ofNat 1), AV.int IntKind.u64 (Int.ofNat 0), AV.int IntKind.u64 (Int.ofNat 0), AV.int IntKind.u64 (Int.ofNat 0), AV.int IntKind.u64 (Int.ofNat 0), AV.int IntKind.u64 (Int.ofNat 0), AV.int IntKind.u64 (Int.ofNat 0), AV.int IntKind.u64 (Int.ofNat 0), AV.int IntKind.u64 (Int.ofNat 0), AV.int IntKind.u64 (Int.ofNat 0)])], len := 2, esc := none, wr := [] }, nx := 78 } }, [], []) := by kernel_rfl
theorem g16_at {s : AS} (hG : hasG s G16 = true) : ∀ x ∈ G16, ∃ ro, s.get x.1 = some (.cells ro x.2) := fun x hx => by
  have := List.all_eq_true.1 hG x hx
  split at this
  · rename_i ro cs hcs
    have e := AV.beqs_eq this
    exact ⟨ro, e ▸ hcs⟩
  · cases this
theorem smay_call (e i : Nat) (s : AS) (hG : hasG s G16 = true) : Sound Tryz.prog (.call 161 [.agg (eC i), .int .u8 (Int.ofNat 2), snV, .int .u64 (Int.ofNat e)] s) ⟨.ret, [.bool true], s⟩ :=
  Sound.putFG (P := Tryz.prog) (f := 161) (Fz := G16) (n0 := 2) (nx0 := 20) (bs0 := []) (runX_sound mixed none_sound (smay_run e (sl i)) trivial) (fun b => b) (fun g hg => ⟨by rw [glN] at hg; omega, rfl⟩) [] s
    (fun x hx => ⟨by
      simp only [G16, List.mem_cons, List.not_mem_nil, or_false] at hx
      rcases hx with rfl | rfl <;> decide, List.not_mem_nil, by
      simp only [G16, List.mem_cons, List.not_mem_nil, or_false] at hx
      rcases hx with rfl | rfl <;> rfl, g16_at hG x hx, fun _ h => by cases h⟩) trivial (fun _ h => by cases h) List.nodup_nil List.nodup_nil (fun _ h => by cases h) rfl rfl
def mayQ (e : Nat) : Nat → List Qst
  | 0 => []
  | n + 1 => mayQ e n ++ [.pure G16 161 [.agg (eC n), .int .u8 (Int.ofNat 2), snV, .int .u64 (Int.ofNat e)] (.bool true)]
theorem mayQ_ok (e : Nat) : ∀ n, Qsts Tryz.prog (mayQ e n)
  | 0 => trivial
  | n + 1 => by
    show Qsts Tryz.prog (mayQ e n ++ [_])
    rw [qsts_app]
    exact ⟨mayQ_ok e n, fun s hs => smay_call e n s hs, trivial⟩
def memc (M : PM) (O : AObj) : List (Nat × AObj) := [(4, .cells false (M.C (.map 5))), (5, O)]
def eB (n th : Nat) : List (Nat × AObj) := [(7, guardO th), (8, listO n), (10, XE n), (11, ldO 1 0), (12, .map (hadL n) (List.range n) n), (13, .cells false (ents n)), (16, .cells false R40)]
noncomputable def eR (n th e : Nat) (M M1 : PM) (O : AObj) : Option (Res × List Dec × List Qst) := runX Tryz.prog none_ 300 41 (.call 41 [.ptr 10 0, .ptr 4 0] (canF (memc M O ++ eB n th) Fz0 10 40)) (.call 217 1 7 (.int .u64 (Int.ofNat e)) (fun s => s.set 4 (.cells false (M1.C (.map 5)))) :: List.replicate n (.pure 134 5 15 G16 (.bool true)))
def eQ (n th e : Nat) (M M1 : PM) (O : AObj) : List Qst := .snd (.call 55 [.ptr 4 0, .agg [.int .u8 (Int.ofNat 1), .int .i64 (Int.ofNat 0), .int .i64 (Int.ofNat 0)]] (canF (memc M O ++ eB n th) Fz0 10 40)) ⟨.ret, [.int .u64 (Int.ofNat e)], (canF (memc M O ++ eB n th) Fz0 10 40).set 4 (.cells false (M1.C (.map 5)))⟩ :: mayQ e n
def eT (n th e : Nat) (M1 : PM) (O : AObj) : List (Nat × AObj) := memc M1 O ++ [(7, guardO th), (8, .cells false [.nilSlice, .map 12]), (10, scanO (.iface tFree (.ptr (48 + 3 * n) 0)) 2 n (.slice 16 0 4 4) (.slice (42 + 3 * n) 6 (n - 1) (n - 1)) (.osl (45 + 3 * n) 0 1 3)), (11, ldO 1 e), (12, .map [] [] n), (13, .cells false (ents n)), (16, .cells false R40), (42 + 3 * n, .cells false (ents n)), (45 + 3 * n, .cells false (refs 1)), (46 + 3 * n, clO), (47 + 3 * n, .cells false [.int .i64 (sl 0), .func (.func 117) [] [.ptr (46 + 3 * n) 0], .int .u32 (Int.ofNat 0), .bool false, .int .u8 (Int.ofNat 0)]), (48 + 3 * n, .cells false [.int .i64 (sl 0), .iface 125 (.ptr (47 + 3 * n) 0), .int .i64 (Int.ofNat 1), .int .u8 (Int.ofNat 0)])]
theorem e_run (th e : Nat) (M M1 : PM) (O : AObj) : ∀ n, 0 < n → n ≤ 8 → (eR n th e M M1 O).map (fun x => (x.1.ts, (eT n th e M1 O).map (fun y => x.1.s.get y.1), x.2.2)) = some ([.bool false], (eT n th e M1 O).map (fun y => some y.2), eQ n th e M M1 O)
  | 0, h, _ => absurd h (by omega)
  | 1, _, _ => by kernel_rfl
  | 2, _, _ => by kernel_rfl
  | 3, _, _ => by kernel_rfl
  | 4, _, _ => by kernel_rfl
  | 5, _, _ => by kernel_rfl
  | 6, _, _ => by kernel_rfl
  | 7, _, _ => by kernel_rfl
  | 8, _, _ => by kernel_rfl
  | n + 9, _, h => absurd h (by omega)
def eA (n th : Nat) : List (Nat × AObj) := [(7, guardO th), (8, .cells false [.nilSlice, .map 12]), (10, XF n 6 (n - 1) (n - 1) 1), (11, freeO (sl 0) hdrV 1), (17, hdrO (sl 0) 0 false), (18, clO), (15, .cells false (ents n)), (19, .cells false (refs 1))]
def κ5 (n b : Nat) : Nat := bif Nat.beq b 11 then 48 + 3 * n else bif Nat.beq b 17 then 47 + 3 * n else bif Nat.beq b 18 then 46 + 3 * n else bif Nat.beq b 15 then 42 + 3 * n else bif Nat.beq b 19 then 45 + 3 * n else b
theorem e_kan (n th : Nat) (M : PM) : Kan Tryz.prog (memc M (mapO M.ms) ++ eB n th) Fz0 40 := by
  refine kan ⟨⟨show 4 < 40 by decide, rfl, rfl, rfl⟩, ⟨show 5 < 40 by decide, rfl, mapO_names _ _, rfl⟩, ⟨show 7 < 40 by decide, rfl, rfl, rfl⟩, ⟨show 8 < 40 by decide, ?_, ?_, rfl⟩, ⟨show 10 < 40 by decide, rfl, rfl, rfl⟩, ⟨show 11 < 40 by decide, rfl, rfl, rfl⟩, ⟨show 12 < 40 by decide, rfl, had_names _ _, rfl⟩, ⟨show 13 < 40 by decide, rfl, ents_names _ _, rfl⟩, ⟨show 16 < 40 by decide, rfl, rfl, rfl⟩, trivial⟩ (show ([4, 5, 7, 8, 10, 11, 12, 13, 16] : List Nat).Nodup by decide) (show 0 ∉ ([4, 5, 7, 8, 10, 11, 12, 13, 16] : List Nat) by decide)
  · cases n <;> rfl
  · cases n <;> rfl
theorem e_at {M : PM} {th : Nat} : ∀ n, 0 < n → n ≤ 8 → StepF Tryz.prog Fz0 40 41 [.ptr 10 0, .ptr 4 0] (.bool false) (memc M (mapO M.ms) ++ eB n th) (memc (M.load aEp) (mapO M.ms) ++ eA n th) (κ5 n)
  | 0, h, _ => absurd h (by omega)
  | 1, h1, h2 => step_tab (eT 1 th (getW M.ms aEp) (M.load aEp) (mapO M.ms)) (run_at _ (e_run th (getW M.ms aEp) M (M.load aEp) (mapO M.ms) 1 h1 h2) ⟨pload_at (b := 4) (bm := 5) (m := M) rfl rfl aEp, mayQ_ok _ _⟩) [45, 48, 49, 50, 51] (e_kan 1 th M) (by decide) (fun b hb => by
      simp only [List.mem_cons, List.not_mem_nil, or_false] at hb
      rcases hb with rfl | rfl | rfl | rfl | rfl
      · exact ⟨by decide, 9, _, rfl, rfl, rfl⟩
      · exact ⟨by decide, 10, _, rfl, rfl, rfl⟩
      · exact ⟨by decide, 11, _, rfl, rfl, rfl⟩
      · exact ⟨by decide, 12, _, rfl, rfl, rfl⟩
      · exact ⟨by decide, 13, _, rfl, rfl, rfl⟩) ⟨rfl, rfl⟩
    ⟨⟨.inl (show 4 ∈ ([4, 5, 7, 8, 10, 11, 12, 13, 16] : List Nat) by decide), 0, rfl⟩, ⟨.inl (show 5 ∈ ([4, 5, 7, 8, 10, 11, 12, 13, 16] : List Nat) by decide), 1, by rw [mapO_ren]; rfl⟩, ⟨.inl (show 7 ∈ ([4, 5, 7, 8, 10, 11, 12, 13, 16] : List Nat) by decide), 2, rfl⟩, ⟨.inl (show 8 ∈ ([4, 5, 7, 8, 10, 11, 12, 13, 16] : List Nat) by decide), 3, rfl⟩, ⟨.inl (show 10 ∈ ([4, 5, 7, 8, 10, 11, 12, 13, 16] : List Nat) by decide), 4, rfl⟩, ⟨.inr (show 51 ∈ ([45, 48, 49, 50, 51] : List Nat) by decide), 13, rfl⟩, ⟨.inr (show 50 ∈ ([45, 48, 49, 50, 51] : List Nat) by decide), 12, rfl⟩, ⟨.inr (show 49 ∈ ([45, 48, 49, 50, 51] : List Nat) by decide), 11, rfl⟩, ⟨.inr (show 45 ∈ ([45, 48, 49, 50, 51] : List Nat) by decide), 9, rfl⟩, ⟨.inr (show 48 ∈ ([45, 48, 49, 50, 51] : List Nat) by decide), 10, rfl⟩, trivial⟩ (show ∀ b ∈ ([4, 5, 7, 8, 10, 11, 17, 18, 15, 19] : List Nat), ∀ c ∈ ([4, 5, 7, 8, 10, 11, 17, 18, 15, 19] : List Nat), κ5 1 b = κ5 1 c → b = c by decide) rfl ⟨⟨0, _, rfl, .inl rfl, rfl⟩, ⟨1, _, rfl, .inl rfl, mapO_names _ _⟩, ⟨2, _, rfl, .inl rfl, rfl⟩, ⟨3, _, rfl, .inl rfl, rfl⟩, ⟨4, _, rfl, .inl rfl, rfl⟩, ⟨5, _, rfl, .inl rfl, rfl⟩, ⟨6, _, rfl, .inl rfl, rfl⟩, ⟨7, _, rfl, .inl rfl, rfl⟩, ⟨8, _, rfl, .inl rfl, rfl⟩, trivial⟩ rfl
  | 2, h1, h2 => step_tab (eT 2 th (getW M.ms aEp) (M.load aEp) (mapO M.ms)) (run_at _ (e_run th (getW M.ms aEp) M (M.load aEp) (mapO M.ms) 2 h1 h2) ⟨pload_at (b := 4) (bm := 5) (m := M) rfl rfl aEp, mayQ_ok _ _⟩) [48, 51, 52, 53, 54] (e_kan 2 th M) (by decide) (fun b hb => by
      simp only [List.mem_cons, List.not_mem_nil, or_false] at hb
      rcases hb with rfl | rfl | rfl | rfl | rfl
      · exact ⟨by decide, 9, _, rfl, rfl, rfl⟩
      · exact ⟨by decide, 10, _, rfl, rfl, rfl⟩
      · exact ⟨by decide, 11, _, rfl, rfl, rfl⟩
      · exact ⟨by decide, 12, _, rfl, rfl, rfl⟩
      · exact ⟨by decide, 13, _, rfl, rfl, rfl⟩) ⟨rfl, rfl⟩
    ⟨⟨.inl (show 4 ∈ ([4, 5, 7, 8, 10, 11, 12, 13, 16] : List Nat) by decide), 0, rfl⟩, ⟨.inl (show 5 ∈ ([4, 5, 7, 8, 10, 11, 12, 13, 16] : List Nat) by decide), 1, by rw [mapO_ren]; rfl⟩, ⟨.inl (show 7 ∈ ([4, 5, 7, 8, 10, 11, 12, 13, 16] : List Nat) by decide), 2, rfl⟩, ⟨.inl (show 8 ∈ ([4, 5, 7, 8, 10, 11, 12, 13, 16] : List Nat) by decide), 3, rfl⟩, ⟨.inl (show 10 ∈ ([4, 5, 7, 8, 10, 11, 12, 13, 16] : List Nat) by decide), 4, rfl⟩, ⟨.inr (show 54 ∈ ([48, 51, 52, 53, 54] : List Nat) by decide), 13, rfl⟩, ⟨.inr (show 53 ∈ ([48, 51, 52, 53, 54] : List Nat) by decide), 12, rfl⟩, ⟨.inr (show 52 ∈ ([48, 51, 52, 53, 54] : List Nat) by decide), 11, rfl⟩, ⟨.inr (show 48 ∈ ([48, 51, 52, 53, 54] : List Nat) by decide), 9, rfl⟩, ⟨.inr (show 51 ∈ ([48, 51, 52, 53, 54] : List Nat) by decide), 10, rfl⟩, trivial⟩ (show ∀ b ∈ ([4, 5, 7, 8, 10, 11, 17, 18, 15, 19] : List Nat), ∀ c ∈ ([4, 5, 7, 8, 10, 11, 17, 18, 15, 19] : List Nat), κ5 2 b = κ5 2 c → b = c by decide) rfl ⟨⟨0, _, rfl, .inl rfl, rfl⟩, ⟨1, _, rfl, .inl rfl, mapO_names _ _⟩, ⟨2, _, rfl, .inl rfl, rfl⟩, ⟨3, _, rfl, .inl rfl, rfl⟩, ⟨4, _, rfl, .inl rfl, rfl⟩, ⟨5, _, rfl, .inl rfl, rfl⟩, ⟨6, _, rfl, .inl rfl, rfl⟩, ⟨7, _, rfl, .inl rfl, rfl⟩, ⟨8, _, rfl, .inl rfl, rfl⟩, trivial⟩ rfl
  | 3, h1, h2 => step_tab (eT 3 th (getW M.ms aEp) (M.load aEp) (mapO M.ms)) (run_at _ (e_run th (getW M.ms aEp) M (M.load aEp) (mapO M.ms) 3 h1 h2) ⟨pload_at (b := 4) (bm := 5) (m := M) rfl rfl aEp, mayQ_ok _ _⟩) [51, 54, 55, 56, 57] (e_kan 3 th M) (by decide) (fun b hb => by
      simp only [List.mem_cons, List.not_mem_nil, or_false] at hb
      rcases hb with rfl | rfl | rfl | rfl | rfl
      · exact ⟨by decide, 9, _, rfl, rfl, rfl⟩
      · exact ⟨by decide, 10, _, rfl, rfl, rfl⟩
      · exact ⟨by decide, 11, _, rfl, rfl, rfl⟩
      · exact ⟨by decide, 12, _, rfl, rfl, rfl⟩
      · exact ⟨by decide, 13, _, rfl, rfl, rfl⟩) ⟨rfl, rfl⟩
    ⟨⟨.inl (show 4 ∈ ([4, 5, 7, 8, 10, 11, 12, 13, 16] : List Nat) by decide), 0, rfl⟩, ⟨.inl (show 5 ∈ ([4, 5, 7, 8, 10, 11, 12, 13, 16] : List Nat) by decide), 1, by rw [mapO_ren]; rfl⟩, ⟨.inl (show 7 ∈ ([4, 5, 7, 8, 10, 11, 12, 13, 16] : List Nat) by decide), 2, rfl⟩, ⟨.inl (show 8 ∈ ([4, 5, 7, 8, 10, 11, 12, 13, 16] : List Nat) by decide), 3, rfl⟩, ⟨.inl (show 10 ∈ ([4, 5, 7, 8, 10, 11, 12, 13, 16] : List Nat) by decide), 4, rfl⟩, ⟨.inr (show 57 ∈ ([51, 54, 55, 56, 57] : List Nat) by decide), 13, rfl⟩, ⟨.inr (show 56 ∈ ([51, 54, 55, 56, 57] : List Nat) by decide), 12, rfl⟩, ⟨.inr (show 55 ∈ ([51, 54, 55, 56, 57] : List Nat) by decide), 11, rfl⟩, ⟨.inr (show 51 ∈ ([51, 54, 55, 56, 57] : List Nat) by decide), 9, rfl⟩, ⟨.inr (show 54 ∈ ([51, 54, 55, 56, 57] : List Nat) by decide), 10, rfl⟩, trivial⟩ (show ∀ b ∈ ([4, 5, 7, 8, 10, 11, 17, 18, 15, 19] : List Nat), ∀ c ∈ ([4, 5, 7, 8, 10, 11, 17, 18, 15, 19] : List Nat), κ5 3 b = κ5 3 c → b = c by decide) rfl ⟨⟨0, _, rfl, .inl rfl, rfl⟩, ⟨1, _, rfl, .inl rfl, mapO_names _ _⟩, ⟨2, _, rfl, .inl rfl, rfl⟩, ⟨3, _, rfl, .inl rfl, rfl⟩, ⟨4, _, rfl, .inl rfl, rfl⟩, ⟨5, _, rfl, .inl rfl, rfl⟩, ⟨6, _, rfl, .inl rfl, rfl⟩, ⟨7, _, rfl, .inl rfl, rfl⟩, ⟨8, _, rfl, .inl rfl, rfl⟩, trivial⟩ rfl
  | 4, h1, h2 => step_tab (eT 4 th (getW M.ms aEp) (M.load aEp) (mapO M.ms)) (run_at _ (e_run th (getW M.ms aEp) M (M.load aEp) (mapO M.ms) 4 h1 h2) ⟨pload_at (b := 4) (bm := 5) (m := M) rfl rfl aEp, mayQ_ok _ _⟩) [54, 57, 58, 59, 60] (e_kan 4 th M) (by decide) (fun b hb => by
      simp only [List.mem_cons, List.not_mem_nil, or_false] at hb
      rcases hb with rfl | rfl | rfl | rfl | rfl
      · exact ⟨by decide, 9, _, rfl, rfl, rfl⟩
      · exact ⟨by decide, 10, _, rfl, rfl, rfl⟩
      · exact ⟨by decide, 11, _, rfl, rfl, rfl⟩
      · exact ⟨by decide, 12, _, rfl, rfl, rfl⟩
      · exact ⟨by decide, 13, _, rfl, rfl, rfl⟩) ⟨rfl, rfl⟩
    ⟨⟨.inl (show 4 ∈ ([4, 5, 7, 8, 10, 11, 12, 13, 16] : List Nat) by decide), 0, rfl⟩, ⟨.inl (show 5 ∈ ([4, 5, 7, 8, 10, 11, 12, 13, 16] : List Nat) by decide), 1, by rw [mapO_ren]; rfl⟩, ⟨.inl (show 7 ∈ ([4, 5, 7, 8, 10, 11, 12, 13, 16] : List Nat) by decide), 2, rfl⟩, ⟨.inl (show 8 ∈ ([4, 5, 7, 8, 10, 11, 12, 13, 16] : List Nat) by decide), 3, rfl⟩, ⟨.inl (show 10 ∈ ([4, 5, 7, 8, 10, 11, 12, 13, 16] : List Nat) by decide), 4, rfl⟩, ⟨.inr (show 60 ∈ ([54, 57, 58, 59, 60] : List Nat) by decide), 13, rfl⟩, ⟨.inr (show 59 ∈ ([54, 57, 58, 59, 60] : List Nat) by decide), 12, rfl⟩, ⟨.inr (show 58 ∈ ([54, 57, 58, 59, 60] : List Nat) by decide), 11, rfl⟩, ⟨.inr (show 54 ∈ ([54, 57, 58, 59, 60] : List Nat) by decide), 9, rfl⟩, ⟨.inr (show 57 ∈ ([54, 57, 58, 59, 60] : List Nat) by decide), 10, rfl⟩, trivial⟩ (show ∀ b ∈ ([4, 5, 7, 8, 10, 11, 17, 18, 15, 19] : List Nat), ∀ c ∈ ([4, 5, 7, 8, 10, 11, 17, 18, 15, 19] : List Nat), κ5 4 b = κ5 4 c → b = c by decide) rfl ⟨⟨0, _, rfl, .inl rfl, rfl⟩, ⟨1, _, rfl, .inl rfl, mapO_names _ _⟩, ⟨2, _, rfl, .inl rfl, rfl⟩, ⟨3, _, rfl, .inl rfl, rfl⟩, ⟨4, _, rfl, .inl rfl, rfl⟩, ⟨5, _, rfl, .inl rfl, rfl⟩, ⟨6, _, rfl, .inl rfl, rfl⟩, ⟨7, _, rfl, .inl rfl, rfl⟩, ⟨8, _, rfl, .inl rfl, rfl⟩, trivial⟩ rfl
  | 5, h1, h2 => step_tab (eT 5 th (getW M.ms aEp) (M.load aEp) (mapO M.ms)) (run_at _ (e_run th (getW M.ms aEp) M (M.load aEp) (mapO M.ms) 5 h1 h2) ⟨pload_at (b := 4) (bm := 5) (m := M) rfl rfl aEp, mayQ_ok _ _⟩) [57, 60, 61, 62, 63] (e_kan 5 th M) (by decide) (fun b hb => by
      simp only [List.mem_cons, List.not_mem_nil, or_false] at hb
      rcases hb with rfl | rfl | rfl | rfl | rfl
      · exact ⟨by decide, 9, _, rfl, rfl, rfl⟩
      · exact ⟨by decide, 10, _, rfl, rfl, rfl⟩
      · exact ⟨by decide, 11, _, rfl, rfl, rfl⟩
      · exact ⟨by decide, 12, _, rfl, rfl, rfl⟩
      · exact ⟨by decide, 13, _, rfl, rfl, rfl⟩) ⟨rfl, rfl⟩
    ⟨⟨.inl (show 4 ∈ ([4, 5, 7, 8, 10, 11, 12, 13, 16] : List Nat) by decide), 0, rfl⟩, ⟨.inl (show 5 ∈ ([4, 5, 7, 8, 10, 11, 12, 13, 16] : List Nat) by decide), 1, by rw [mapO_ren]; rfl⟩, ⟨.inl (show 7 ∈ ([4, 5, 7, 8, 10, 11, 12, 13, 16] : List Nat) by decide), 2, rfl⟩, ⟨.inl (show 8 ∈ ([4, 5, 7, 8, 10, 11, 12, 13, 16] : List Nat) by decide), 3, rfl⟩, ⟨.inl (show 10 ∈ ([4, 5, 7, 8, 10, 11, 12, 13, 16] : List Nat) by decide), 4, rfl⟩, ⟨.inr (show 63 ∈ ([57, 60, 61, 62, 63] : List Nat) by decide), 13, rfl⟩, ⟨.inr (show 62 ∈ ([57, 60, 61, 62, 63] : List Nat) by decide), 12, rfl⟩, ⟨.inr (show 61 ∈ ([57, 60, 61, 62, 63] : List Nat) by decide), 11, rfl⟩, ⟨.inr (show 57 ∈ ([57, 60, 61, 62, 63] : List Nat) by decide), 9, rfl⟩, ⟨.inr (show 60 ∈ ([57, 60, 61, 62, 63] : List Nat) by decide), 10, rfl⟩, trivial⟩ (show ∀ b ∈ ([4, 5, 7, 8, 10, 11, 17, 18, 15, 19] : List Nat), ∀ c ∈ ([4, 5, 7, 8, 10, 11, 17, 18, 15, 19] : List Nat), κ5 5 b = κ5 5 c → b = c by decide) rfl ⟨⟨0, _, rfl, .inl rfl, rfl⟩, ⟨1, _, rfl, .inl rfl, mapO_names _ _⟩, ⟨2, _, rfl, .inl rfl, rfl⟩, ⟨3, _, rfl, .inl rfl, rfl⟩, ⟨4, _, rfl, .inl rfl, rfl⟩, ⟨5, _, rfl, .inl rfl, rfl⟩, ⟨6, _, rfl, .inl rfl, rfl⟩, ⟨7, _, rfl, .inl rfl, rfl⟩, ⟨8, _, rfl, .inl rfl, rfl⟩, trivial⟩ rfl
  | 6, h1, h2 => step_tab (eT 6 th (getW M.ms aEp) (M.load aEp) (mapO M.ms)) (run_at _ (e_run th (getW M.ms aEp) M (M.load aEp) (mapO M.ms) 6 h1 h2) ⟨pload_at (b := 4) (bm := 5) (m := M) rfl rfl aEp, mayQ_ok _ _⟩) [60, 63, 64, 65, 66] (e_kan 6 th M) (by decide) (fun b hb => by
      simp only [List.mem_cons, List.not_mem_nil, or_false] at hb
      rcases hb with rfl | rfl | rfl | rfl | rfl
      · exact ⟨by decide, 9, _, rfl, rfl, rfl⟩
      · exact ⟨by decide, 10, _, rfl, rfl, rfl⟩
      · exact ⟨by decide, 11, _, rfl, rfl, rfl⟩
      · exact ⟨by decide, 12, _, rfl, rfl, rfl⟩
      · exact ⟨by decide, 13, _, rfl, rfl, rfl⟩) ⟨rfl, rfl⟩
    ⟨⟨.inl (show 4 ∈ ([4, 5, 7, 8, 10, 11, 12, 13, 16] : List Nat) by decide), 0, rfl⟩, ⟨.inl (show 5 ∈ ([4, 5, 7, 8, 10, 11, 12, 13, 16] : List Nat) by decide), 1, by rw [mapO_ren]; rfl⟩, ⟨.inl (show 7 ∈ ([4, 5, 7, 8, 10, 11, 12, 13, 16] : List Nat) by decide), 2, rfl⟩, ⟨.inl (show 8 ∈ ([4, 5, 7, 8, 10, 11, 12, 13, 16] : List Nat) by decide), 3, rfl⟩, ⟨.inl (show 10 ∈ ([4, 5, 7, 8, 10, 11, 12, 13, 16] : List Nat) by decide), 4, rfl⟩, ⟨.inr (show 66 ∈ ([60, 63, 64, 65, 66] : List Nat) by decide), 13, rfl⟩, ⟨.inr (show 65 ∈ ([60, 63, 64, 65, 66] : List Nat) by decide), 12, rfl⟩, ⟨.inr (show 64 ∈ ([60, 63, 64, 65, 66] : List Nat) by decide), 11, rfl⟩, ⟨.inr (show 60 ∈ ([60, 63, 64, 65, 66] : List Nat) by decide), 9, rfl⟩, ⟨.inr (show 63 ∈ ([60, 63, 64, 65, 66] : List Nat) by decide), 10, rfl⟩, trivial⟩ (show ∀ b ∈ ([4, 5, 7, 8, 10, 11, 17, 18, 15, 19] : List Nat), ∀ c ∈ ([4, 5, 7, 8, 10, 11, 17, 18, 15, 19] : List Nat), κ5 6 b = κ5 6 c → b = c by decide) rfl ⟨⟨0, _, rfl, .inl rfl, rfl⟩, ⟨1, _, rfl, .inl rfl, mapO_names _ _⟩, ⟨2, _, rfl, .inl rfl, rfl⟩, ⟨3, _, rfl, .inl rfl, rfl⟩, ⟨4, _, rfl, .inl rfl, rfl⟩, ⟨5, _, rfl, .inl rfl, rfl⟩, ⟨6, _, rfl, .inl rfl, rfl⟩, ⟨7, _, rfl, .inl rfl, rfl⟩, ⟨8, _, rfl, .inl rfl, rfl⟩, trivial⟩ rfl
  | 7, h1, h2 => step_tab (eT 7 th (getW M.ms aEp) (M.load aEp) (mapO M.ms)) (run_at _ (e_run th (getW M.ms aEp) M (M.load aEp) (mapO M.ms) 7 h1 h2) ⟨pload_at (b := 4) (bm := 5) (m := M) rfl rfl aEp, mayQ_ok _ _⟩) [63, 66, 67, 68, 69] (e_kan 7 th M) (by decide) (fun b hb => by
      simp only [List.mem_cons, List.not_mem_nil, or_false] at hb
      rcases hb with rfl | rfl | rfl | rfl | rfl
      · exact ⟨by decide, 9, _, rfl, rfl, rfl⟩
      · exact ⟨by decide, 10, _, rfl, rfl, rfl⟩
      · exact ⟨by decide, 11, _, rfl, rfl, rfl⟩
      · exact ⟨by decide, 12, _, rfl, rfl, rfl⟩
      · exact ⟨by decide, 13, _, rfl, rfl, rfl⟩) ⟨rfl, rfl⟩
    ⟨⟨.inl (show 4 ∈ ([4, 5, 7, 8, 10, 11, 12, 13, 16] : List Nat) by decide), 0, rfl⟩, ⟨.inl (show 5 ∈ ([4, 5, 7, 8, 10, 11, 12, 13, 16] : List Nat) by decide), 1, by rw [mapO_ren]; rfl⟩, ⟨.inl (show 7 ∈ ([4, 5, 7, 8, 10, 11, 12, 13, 16] : List Nat) by decide), 2, rfl⟩, ⟨.inl (show 8 ∈ ([4, 5, 7, 8, 10, 11, 12, 13, 16] : List Nat) by decide), 3, rfl⟩, ⟨.inl (show 10 ∈ ([4, 5, 7, 8, 10, 11, 12, 13, 16] : List Nat) by decide), 4, rfl⟩, ⟨.inr (show 69 ∈ ([63, 66, 67, 68, 69] : List Nat) by decide), 13, rfl⟩, ⟨.inr (show 68 ∈ ([63, 66, 67, 68, 69] : List Nat) by decide), 12, rfl⟩, ⟨.inr (show 67 ∈ ([63, 66, 67, 68, 69] : List Nat) by decide), 11, rfl⟩, ⟨.inr (show 63 ∈ ([63, 66, 67, 68, 69] : List Nat) by decide), 9, rfl⟩, ⟨.inr (show 66 ∈ ([63, 66, 67, 68, 69] : List Nat) by decide), 10, rfl⟩, trivial⟩ (show ∀ b ∈ ([4, 5, 7, 8, 10, 11, 17, 18, 15, 19] : List Nat), ∀ c ∈ ([4, 5, 7, 8, 10, 11, 17, 18, 15, 19] : List Nat), κ5 7 b = κ5 7 c → b = c by decide) rfl ⟨⟨0, _, rfl, .inl rfl, rfl⟩, ⟨1, _, rfl, .inl rfl, mapO_names _ _⟩, ⟨2, _, rfl, .inl rfl, rfl⟩, ⟨3, _, rfl, .inl rfl, rfl⟩, ⟨4, _, rfl, .inl rfl, rfl⟩, ⟨5, _, rfl, .inl rfl, rfl⟩, ⟨6, _, rfl, .inl rfl, rfl⟩, ⟨7, _, rfl, .inl rfl, rfl⟩, ⟨8, _, rfl, .inl rfl, rfl⟩, trivial⟩ rfl
  | 8, h1, h2 => step_tab (eT 8 th (getW M.ms aEp) (M.load aEp) (mapO M.ms)) (run_at _ (e_run th (getW M.ms aEp) M (M.load aEp) (mapO M.ms) 8 h1 h2) ⟨pload_at (b := 4) (bm := 5) (m := M) rfl rfl aEp, mayQ_ok _ _⟩) [66, 69, 70, 71, 72] (e_kan 8 th M) (by decide) (fun b hb => by
      simp only [List.mem_cons, List.not_mem_nil, or_false] at hb
      rcases hb with rfl | rfl | rfl | rfl | rfl
      · exact ⟨by decide, 9, _, rfl, rfl, rfl⟩
      · exact ⟨by decide, 10, _, rfl, rfl, rfl⟩
      · exact ⟨by decide, 11, _, rfl, rfl, rfl⟩
      · exact ⟨by decide, 12, _, rfl, rfl, rfl⟩
      · exact ⟨by decide, 13, _, rfl, rfl, rfl⟩) ⟨rfl, rfl⟩
    ⟨⟨.inl (show 4 ∈ ([4, 5, 7, 8, 10, 11, 12, 13, 16] : List Nat) by decide), 0, rfl⟩, ⟨.inl (show 5 ∈ ([4, 5, 7, 8, 10, 11, 12, 13, 16] : List Nat) by decide), 1, by rw [mapO_ren]; rfl⟩, ⟨.inl (show 7 ∈ ([4, 5, 7, 8, 10, 11, 12, 13, 16] : List Nat) by decide), 2, rfl⟩, ⟨.inl (show 8 ∈ ([4, 5, 7, 8, 10, 11, 12, 13, 16] : List Nat) by decide), 3, rfl⟩, ⟨.inl (show 10 ∈ ([4, 5, 7, 8, 10, 11, 12, 13, 16] : List Nat) by decide), 4, rfl⟩, ⟨.inr (show 72 ∈ ([66, 69, 70, 71, 72] : List Nat) by decide), 13, rfl⟩, ⟨.inr (show 71 ∈ ([66, 69, 70, 71, 72] : List Nat) by decide), 12, rfl⟩, ⟨.inr (show 70 ∈ ([66, 69, 70, 71, 72] : List Nat) by decide), 11, rfl⟩, ⟨.inr (show 66 ∈ ([66, 69, 70, 71, 72] : List Nat) by decide), 9, rfl⟩, ⟨.inr (show 69 ∈ ([66, 69, 70, 71, 72] : List Nat) by decide), 10, rfl⟩, trivial⟩ (show ∀ b ∈ ([4, 5, 7, 8, 10, 11, 17, 18, 15, 19] : List Nat), ∀ c ∈ ([4, 5, 7, 8, 10, 11, 17, 18, 15, 19] : List Nat), κ5 8 b = κ5 8 c → b = c by decide) rfl ⟨⟨0, _, rfl, .inl rfl, rfl⟩, ⟨1, _, rfl, .inl rfl, mapO_names _ _⟩, ⟨2, _, rfl, .inl rfl, rfl⟩, ⟨3, _, rfl, .inl rfl, rfl⟩, ⟨4, _, rfl, .inl rfl, rfl⟩, ⟨5, _, rfl, .inl rfl, rfl⟩, ⟨6, _, rfl, .inl rfl, rfl⟩, ⟨7, _, rfl, .inl rfl, rfl⟩, ⟨8, _, rfl, .inl rfl, rfl⟩, trivial⟩ rfl
  | n + 9, _, h => absurd h (by omega)
noncomputable def e0R (th e : Nat) (M M1 : PM) (O : AObj) : Option (Res × List Dec × List Qst) := runX Tryz.prog none_ 300 41 (.call 41 [.ptr 10 0, .ptr 4 0] (canF (memc M O ++ [(7, guardO th), (8, listO 0), (10, XE 0), (11, ldO 1 0)]) Fz0 7 40)) [.call 217 1 7 (.int .u64 (Int.ofNat e)) (fun s => s.set 4 (.cells false (M1.C (.map 5))))]
def dO (n : Nat) : List (Nat × AObj) := match n with
  | 0 => [(8, .cells false [.nilSlice, .nilMap]), (10, scanO .nilIface 2 0 (.slice 16 0 4 4) .nilSlice .nilSlice)]
  | n + 1 => [(8, .cells false [.nilSlice, .map 12]), (10, scanO .nilIface 2 (n + 1) (.slice 16 0 4 4) (.slice 15 (6 * (n + 1)) 0 0) (.osl 19 0 (n + 1) 3)), (19, .cells false (refs (n + 1)))]
def e0T (th e : Nat) (M1 : PM) (O : AObj) : List (Nat × AObj) := memc M1 O ++ [(7, guardO th), (8, .cells false [.nilSlice, .nilMap]), (10, scanO .nilIface 2 0 (.slice 16 0 4 4) .nilSlice .nilSlice), (11, ldO 1 e)]
theorem e0_run (th e : Nat) (M M1 : PM) (O : AObj) : (e0R th e M M1 O).map (fun x => (x.1.ts, (e0T th e M1 O).map (fun y => x.1.s.get y.1), x.2.2)) = some ([.bool true], (e0T th e M1 O).map (fun y => some y.2), [.snd (.call 55 [.ptr 4 0, .agg [.int .u8 (Int.ofNat 1), .int .i64 (Int.ofNat 0), .int .i64 (Int.ofNat 0)]] (canF (memc M O ++ [(7, guardO th), (8, listO 0), (10, XE 0), (11, ldO 1 0)]) Fz0 7 40)) ⟨.ret, [.int .u64 (Int.ofNat e)], (canF (memc M O ++ [(7, guardO th), (8, listO 0), (10, XE 0), (11, ldO 1 0)]) Fz0 7 40).set 4 (.cells false (M1.C (.map 5)))⟩]) := by kernel_rfl
set_option maxRecDepth 100000 in
theorem e0_at {M : PM} {th : Nat} : StepF Tryz.prog Fz0 40 41 [.ptr 10 0, .ptr 4 0] (.bool true) (memc M (mapO M.ms) ++ [(7, guardO th), (8, listO 0), (10, XE 0), (11, ldO 1 0)]) (memc (M.load aEp) (mapO M.ms) ++ (7, guardO th) :: dO 0) id :=
  step_tab (e0T th (getW M.ms aEp) (M.load aEp) (mapO M.ms)) (run_at _ (e0_run th (getW M.ms aEp) M (M.load aEp) (mapO M.ms)) ⟨pload_at (b := 4) (bm := 5) (m := M) rfl rfl aEp, trivial⟩) [] (kan ⟨⟨show 4 < 40 by decide, rfl, rfl, rfl⟩, ⟨show 5 < 40 by decide, rfl, mapO_names _ _, rfl⟩, ⟨show 7 < 40 by decide, rfl, rfl, rfl⟩, ⟨show 8 < 40 by decide, rfl, rfl, rfl⟩, ⟨show 10 < 40 by decide, rfl, rfl, rfl⟩, ⟨show 11 < 40 by decide, rfl, rfl, rfl⟩, trivial⟩ (show ([4, 5, 7, 8, 10, 11] : List Nat).Nodup by decide) (show 0 ∉ ([4, 5, 7, 8, 10, 11] : List Nat) by decide)) List.nodup_nil (fun _ h => by cases h) ⟨rfl, rfl⟩ ⟨⟨.inl (show 4 ∈ ([4, 5, 7, 8, 10, 11] : List Nat) by decide), 0, rfl⟩, ⟨.inl (show 5 ∈ ([4, 5, 7, 8, 10, 11] : List Nat) by decide), 1, by rw [mapO_ren]; rfl⟩, ⟨.inl (show 7 ∈ ([4, 5, 7, 8, 10, 11] : List Nat) by decide), 2, rfl⟩, ⟨.inl (show 8 ∈ ([4, 5, 7, 8, 10, 11] : List Nat) by decide), 3, rfl⟩, ⟨.inl (show 10 ∈ ([4, 5, 7, 8, 10, 11] : List Nat) by decide), 4, rfl⟩, trivial⟩ (fun _ _ _ _ h => h) rfl ⟨⟨0, _, rfl, .inl rfl, rfl⟩, ⟨1, _, rfl, .inl rfl, mapO_names _ _⟩, ⟨2, _, rfl, .inl rfl, rfl⟩, ⟨3, _, rfl, .inl rfl, rfl⟩, ⟨4, _, rfl, .inl rfl, rfl⟩, ⟨5, _, rfl, .inl rfl, rfl⟩, trivial⟩ rfl
def fB (n i w : Nat) : List (Nat × AObj) := [(10, XF n (6 * (i + 1)) (n - 1 - i) (n - 1 - i) (i + 1)), (11, freeO (sl i) pshV 1), (17, pshO 3 w (sl i)), (15, .cells false (ents n)), (19, .cells false (refs (i + 1)))]
noncomputable def fR (n i w t t3 h2 : Nat) (z0 : Int) (M M1 : PM) (O O1 : AObj) : Option (Res × List Dec × List Qst) := runX Tryz.prog none_ 300 41 (.call 41 [.ptr 10 0, .ptr 4 0] (canF (memc M O ++ fB n i w) Fz0 8 40)) [.pure 144 1 4 G (.tuple [.int .i64 z0, .int .u64 (Int.ofNat t)]), .val 144 2 8 (.int .u64 (Int.ofNat t3)), .pure 144 2 9 G (.int .u64 (Int.ofNat h2)), .call 144 2 10 (.bool true) (fun s => (s.set 4 (.cells false (M1.C (.map 5)))).set 5 O1)]
def fQ (n i w t t3 h2 : Nat) (z0 : Int) (M M1 : PM) (O O1 : AObj) : List Qst := [.pure [(0, wf)] 129 [.int .u64 (Int.ofNat w)] (.tuple [.int .i64 z0, .int .u64 (Int.ofNat t)]), .val (some (.int .u64 (Int.ofNat ((t + 1) % ((2 : Int) ^ IntKind.u64.bits).natAbs)))) (.int .u64 (Int.ofNat t3)), .pure [(0, wf)] 127 [.int .i64 (sl i), .int .u64 (Int.ofNat t3)] (.int .u64 (Int.ofNat h2)), .snd (.call 157 [.ptr 4 0, .agg [.int .u8 (Int.ofNat 0), .int .i64 (Int.ofNat 0), .int .i64 (Int.ofNat 0)], .int .u64 (Int.ofNat w), .int .u64 (Int.ofNat h2)] ⟨(canF (memc M O ++ fB n i w) Fz0 8 40).h, 41⟩) ⟨.ret, [.bool true], ((⟨(canF (memc M O ++ fB n i w) Fz0 8 40).h, 41⟩ : AS).set 4 (.cells false (M1.C (.map 5)))).set 5 O1⟩]
def fT (n i w : Nat) (M1 : PM) (O1 : AObj) : List (Nat × AObj) := memc M1 O1 ++ [(10, scanO (.iface tFree (.ptr 46 0)) 2 n (.slice 16 0 4 4) (.slice 15 (6 * (i + 2)) (n - 2 - i) (n - 2 - i)) (.osl 43 0 (i + 2) 3)), (11, freeO (sl i) pshV 0), (17, pshO 0 w (sl i)), (15, .cells false (ents n)), (19, .dead), (43, .cells false (refs (i + 2))), (44, clO), (45, .cells false [.int .i64 (sl (i + 1)), .func (.func 117) [] [.ptr 44 0], .int .u32 (Int.ofNat 0), .bool false, .int .u8 (Int.ofNat 0)]), (46, .cells false [.int .i64 (sl (i + 1)), .iface 125 (.ptr 45 0), .int .i64 (Int.ofNat 1), .int .u8 (Int.ofNat 0)])]
def fU (n w : Nat) (M1 : PM) (O1 : AObj) : List (Nat × AObj) := memc M1 O1 ++ [(10, scanO .nilIface 2 n (.slice 16 0 4 4) (.slice 15 (6 * n) 0 0) (.osl 19 0 n 3)), (11, freeO (sl (n - 1)) pshV 0), (17, pshO 0 w (sl (n - 1))), (15, .cells false (ents n)), (19, .cells false (refs n))]
theorem f_run (w t t3 h2 : Nat) (z0 : Int) (M M1 : PM) (O O1 : AObj) : ∀ n i, i + 1 < n → n ≤ 8 → (fR n i w t t3 h2 z0 M M1 O O1).map (fun x => (x.1.ts, (fT n i w M1 O1).map (fun y => x.1.s.get y.1), x.2.2)) = some ([.bool false], (fT n i w M1 O1).map (fun y => some y.2), fQ n i w t t3 h2 z0 M M1 O O1)
  | 2, 0, _, _ => by kernel_rfl
  | 2, i + 1, h, _ => absurd h (by omega)
  | 3, 0, _, _ => by kernel_rfl
  | 3, 1, _, _ => by kernel_rfl
  | 3, i + 2, h, _ => absurd h (by omega)
  | 4, 0, _, _ => by kernel_rfl
  | 4, 1, _, _ => by kernel_rfl
  | 4, 2, _, _ => by kernel_rfl
  | 4, i + 3, h, _ => absurd h (by omega)
  | 5, 0, _, _ => by kernel_rfl
  | 5, 1, _, _ => by kernel_rfl
  | 5, 2, _, _ => by kernel_rfl
  | 5, 3, _, _ => by kernel_rfl
  | 5, i + 4, h, _ => absurd h (by omega)
  | 6, 0, _, _ => by kernel_rfl
  | 6, 1, _, _ => by kernel_rfl
  | 6, 2, _, _ => by kernel_rfl
  | 6, 3, _, _ => by kernel_rfl
  | 6, 4, _, _ => by kernel_rfl
  | 6, i + 5, h, _ => absurd h (by omega)
  | 7, 0, _, _ => by kernel_rfl
  | 7, 1, _, _ => by kernel_rfl
  | 7, 2, _, _ => by kernel_rfl
  | 7, 3, _, _ => by kernel_rfl
  | 7, 4, _, _ => by kernel_rfl
  | 7, 5, _, _ => by kernel_rfl
  | 7, i + 6, h, _ => absurd h (by omega)
  | 8, 0, _, _ => by kernel_rfl
  | 8, 1, _, _ => by kernel_rfl
  | 8, 2, _, _ => by kernel_rfl
  | 8, 3, _, _ => by kernel_rfl
  | 8, 4, _, _ => by kernel_rfl
  | 8, 5, _, _ => by kernel_rfl
  | 8, 6, _, _ => by kernel_rfl
  | 8, i + 7, h, _ => absurd h (by omega)
  | 0, _, h, _ => absurd h (by omega)
  | 1, _, h, _ => absurd h (by omega)
  | n + 9, _, _, h => absurd h (by omega)
theorem g_run (w t t3 h2 : Nat) (z0 : Int) (M M1 : PM) (O O1 : AObj) : ∀ n, 0 < n → n ≤ 8 → (fR n (n - 1) w t t3 h2 z0 M M1 O O1).map (fun x => (x.1.ts, (fU n w M1 O1).map (fun y => x.1.s.get y.1), x.2.2)) = some ([.bool true], (fU n w M1 O1).map (fun y => some y.2), fQ n (n - 1) w t t3 h2 z0 M M1 O O1)
  | 0, h, _ => absurd h (by omega)
  | 1, _, _ => by kernel_rfl
  | 2, _, _ => by kernel_rfl
  | 3, _, _ => by kernel_rfl
  | 4, _, _ => by kernel_rfl
  | 5, _, _ => by kernel_rfl
  | 6, _, _ => by kernel_rfl
  | 7, _, _ => by kernel_rfl
  | 8, _, _ => by kernel_rfl
  | n + 9, _, h => absurd h (by omega)
theorem f_kan (n i w : Nat) (M : PM) : Kan Tryz.prog (memc M (mapO M.ms) ++ fB n i w) Fz0 40 :=
  kan ⟨⟨show 4 < 40 by decide, rfl, rfl, rfl⟩, ⟨show 5 < 40 by decide, rfl, mapO_names _ _, rfl⟩, ⟨show 10 < 40 by decide, rfl, rfl, rfl⟩, ⟨show 11 < 40 by decide, rfl, rfl, rfl⟩, ⟨show 17 < 40 by decide, rfl, rfl, rfl⟩, ⟨show 15 < 40 by decide, rfl, ents_names _ _, rfl⟩, ⟨show 19 < 40 by decide, rfl, refs_names _ _, rfl⟩, trivial⟩ (show ([4, 5, 10, 11, 17, 15, 19] : List Nat).Nodup by decide) (show 0 ∉ ([4, 5, 10, 11, 17, 15, 19] : List Nat) by decide)
theorem sl_lo (i : Nat) : -9223372036854775808 ≤ sl i := by simp only [sl, Int.ofNat_eq_natCast]; omega
theorem sl_hi (i : Nat) : sl i < 9223372036854775808 := by simp only [sl, Int.ofNat_eq_natCast]; omega
def κ4 (b : Nat) : Nat := bif Nat.beq b 11 then 46 else bif Nat.beq b 17 then 45 else bif Nat.beq b 18 then 44 else bif Nat.beq b 19 then 43 else b
def fA (n i : Nat) : List (Nat × AObj) := [(10, XF n (6 * (i + 2)) (n - 2 - i) (n - 2 - i) (i + 2)), (11, freeO (sl (i + 1)) hdrV 1), (17, hdrO (sl (i + 1)) 0 false), (18, clO), (15, .cells false (ents n)), (19, .cells false (refs (i + 2)))]
theorem f6_at {M : PM} {n i w : Nat} (hi : i + 1 < n) (hn : n ≤ 8) (hw : w < 18446744073709551616) (hc : M.casd aF w = true) : StepF Tryz.prog Fz0 40 41 [.ptr 10 0, .ptr 4 0] (.bool false) (memc M (mapO M.ms) ++ fB n i w) (memc (M.cas aF w (hdN (sl i) (tgN w + 1))) (mapO (M.cas aF w (hdN (sl i) (tgN w + 1))).ms) ++ fA n i) κ4 :=
  step_tab (fT n i w (M.cas aF w (hdN (sl i) (tgN w + 1))) (mapO (M.cas aF w (hdN (sl i) (tgN w + 1))).ms)) (run_at _ (f_run w (tgN w) (tgN w + 1) (hdN (sl i) (tgN w + 1)) (slI w) M (M.cas aF w (hdN (sl i) (tgN w + 1))) (mapO M.ms) (mapO (M.cas aF w (hdN (sl i) (tgN w + 1))).ms) n i hi hn) ⟨fun s hs => ashead_call w hw s hs, t3q w, fun s hs => head_call (sl i) (tgN w + 1) (sl_lo _) (sl_hi _) (by have := tg_lt w; omega) s hs, pcas_yes (b := 4) (bm := 5) (m := M) rfl rfl aF (by decide) w (hdN (sl i) (tgN w + 1)) hc, trivial⟩) [43, 44, 45, 46] (f_kan n i w M) (by decide) (fun b hb => by
      simp only [List.mem_cons, List.not_mem_nil, or_false] at hb
      rcases hb with rfl | rfl | rfl | rfl
      · exact ⟨by decide, 7, _, rfl, rfl, refs_names _ _⟩
      · exact ⟨by decide, 8, _, rfl, rfl, rfl⟩
      · exact ⟨by decide, 9, _, rfl, rfl, rfl⟩
      · exact ⟨by decide, 10, _, rfl, rfl, rfl⟩) ⟨rfl, rfl⟩
    ⟨⟨.inl (show 4 ∈ ([4, 5, 10, 11, 17, 15, 19] : List Nat) by decide), 0, rfl⟩, ⟨.inl (show 5 ∈ ([4, 5, 10, 11, 17, 15, 19] : List Nat) by decide), 1, by rw [mapO_ren]; rfl⟩, ⟨.inl (show 10 ∈ ([4, 5, 10, 11, 17, 15, 19] : List Nat) by decide), 2, rfl⟩, ⟨.inr (show 46 ∈ ([43, 44, 45, 46] : List Nat) by decide), 10, rfl⟩, ⟨.inr (show 45 ∈ ([43, 44, 45, 46] : List Nat) by decide), 9, rfl⟩, ⟨.inr (show 44 ∈ ([43, 44, 45, 46] : List Nat) by decide), 8, rfl⟩, ⟨.inl (show 15 ∈ ([4, 5, 10, 11, 17, 15, 19] : List Nat) by decide), 5, by show _ = some (15, AObj.cells false (rens _ _)); rw [ents_ren]; rfl⟩, ⟨.inr (show 43 ∈ ([43, 44, 45, 46] : List Nat) by decide), 7, by show _ = some (43, AObj.cells false (rens _ _)); rw [refs_ren]; rfl⟩, trivial⟩ (show ∀ b ∈ ([4, 5, 10, 11, 17, 18, 15, 19] : List Nat), ∀ c ∈ ([4, 5, 10, 11, 17, 18, 15, 19] : List Nat), κ4 b = κ4 c → b = c by decide) rfl ⟨⟨0, _, rfl, .inl rfl, rfl⟩, ⟨1, _, rfl, .inl rfl, mapO_names _ _⟩, ⟨2, _, rfl, .inl rfl, rfl⟩, ⟨3, _, rfl, .inl rfl, rfl⟩, ⟨4, _, rfl, .inl rfl, rfl⟩, ⟨5, _, rfl, .inl rfl, ents_names _ _⟩, ⟨6, _, rfl, .inr rfl, rfl⟩, trivial⟩ rfl
theorem g6_at {M : PM} {n w : Nat} (h0 : 0 < n) (hn : n ≤ 8) (hw : w < 18446744073709551616) (hc : M.casd aF w = true) : StepF Tryz.prog Fz0 40 41 [.ptr 10 0, .ptr 4 0] (.bool true) (memc M (mapO M.ms) ++ fB n (n - 1) w) (memc (M.cas aF w (hdN (sl (n - 1)) (tgN w + 1))) (mapO (M.cas aF w (hdN (sl (n - 1)) (tgN w + 1))).ms) ++ [(10, scanO .nilIface 2 n (.slice 16 0 4 4) (.slice 15 (6 * n) 0 0) (.osl 19 0 n 3)), (19, .cells false (refs n))]) id :=
  step_tab (fU n w (M.cas aF w (hdN (sl (n - 1)) (tgN w + 1))) (mapO (M.cas aF w (hdN (sl (n - 1)) (tgN w + 1))).ms)) (run_at _ (g_run w (tgN w) (tgN w + 1) (hdN (sl (n - 1)) (tgN w + 1)) (slI w) M (M.cas aF w (hdN (sl (n - 1)) (tgN w + 1))) (mapO M.ms) (mapO (M.cas aF w (hdN (sl (n - 1)) (tgN w + 1))).ms) n h0 hn) ⟨fun s hs => ashead_call w hw s hs, t3q w, fun s hs => head_call (sl (n - 1)) (tgN w + 1) (sl_lo _) (sl_hi _) (by have := tg_lt w; omega) s hs, pcas_yes (b := 4) (bm := 5) (m := M) rfl rfl aF (by decide) w (hdN (sl (n - 1)) (tgN w + 1)) hc, trivial⟩) [] (f_kan n (n - 1) w M) List.nodup_nil (fun _ h => by cases h) ⟨rfl, rfl⟩
    ⟨⟨.inl (show 4 ∈ ([4, 5, 10, 11, 17, 15, 19] : List Nat) by decide), 0, rfl⟩, ⟨.inl (show 5 ∈ ([4, 5, 10, 11, 17, 15, 19] : List Nat) by decide), 1, by rw [mapO_ren]; rfl⟩, ⟨.inl (show 10 ∈ ([4, 5, 10, 11, 17, 15, 19] : List Nat) by decide), 2, rfl⟩, ⟨.inl (show 19 ∈ ([4, 5, 10, 11, 17, 15, 19] : List Nat) by decide), 6, by show _ = some (19, AObj.cells false (rens _ _)); rw [refs_ren]; rfl⟩, trivial⟩ (fun _ _ _ _ h => h) rfl ⟨⟨0, _, rfl, .inl rfl, rfl⟩, ⟨1, _, rfl, .inl rfl, mapO_names _ _⟩, ⟨2, _, rfl, .inl rfl, rfl⟩, ⟨3, _, rfl, .inl rfl, rfl⟩, ⟨4, _, rfl, .inl rfl, rfl⟩, ⟨5, _, rfl, .inl rfl, ents_names _ _⟩, ⟨6, _, rfl, .inl rfl, refs_names _ _⟩, trivial⟩ rfl
end Go.Proofs.YtimnagafechmbaaGreatDoor.scansOrphans
