/- The last step of a Retire, wherever it lies; ghosts.Step without ghosts, and with one. Conditions: those that each theorem names, and no others. -/
import Derived.Test.YtimnagafechmbaaGreatDoorArena8
import Derived.Test.YtimnagafechmbaaGreatDoorArena9
namespace Go.Proofs.YtimnagafechmbaaGreatDoor.ghostsArena
open Go Go.Mini
/-! ### where blocks lie: a list of names -/
def pL (n : Nat) (l : List Nat) (x : Nat) : Nat := if x < n then x else l.getD (x - n) 0
theorem pL_at {n : Nat} {l : List Nat} {x : Nat} (h : n ≤ x) (h2 : x < n + l.length) : pL n l x = l[x - n]'(by omega) := by
  unfold pL
  rw [if_neg (by omega), List.getD_eq_getElem?_getD, List.getElem?_eq_getElem (by omega)]
  rfl
theorem pL_inj {n : Nat} {l : List Nat} (h : l.Nodup) : ∀ x ∈ List.range' n l.length, ∀ y ∈ List.range' n l.length, pL n l x = pL n l y → x = y := by
  intro x hx y hy he
  rw [List.mem_range'_1] at hx hy
  rw [pL_at hx.1 hx.2, pL_at hy.1 hy.2] at he
  have hp := List.pairwise_iff_getElem.1 h
  rcases Nat.lt_trichotomy (x - n) (y - n) with g | g | g
  · exact absurd he (hp _ _ (by omega) (by omega) g)
  · omega
  · exact absurd he.symm (hp _ _ (by omega) (by omega) g)
theorem pL_mem {n : Nat} {l : List Nat} : ∀ x ∈ List.range' n l.length, pL n l x ∈ l := by
  intro x hx
  rw [List.mem_range'_1] at hx
  rw [pL_at hx.1 hx.2]
  exact List.getElem_mem _
theorem pL_low {n : Nat} {l : List Nat} {x : Nat} (h : x < n) : pL n l x = x := if_pos h
theorem globL {n m : Nat} {l : List Nat} (hn : 2 ≤ n) (hm : n ≤ m) : ∀ g, g < Tryz.prog.globals.size → g < m ∧ pL n l g = g := fun g hg => by
  rw [glN] at hg
  exact ⟨by omega, pL_low (by omega)⟩
/-- The laid rows lie where they should; these blocks are others. -/
structure Here (s : AS) (l : List Nat) : Prop where
  h0 : ∃ ro, s.get 0 = some (.cells ro wf)
  h1 : ∃ ro, s.get 1 = some (.cells ro lf)
  nd : l.Nodup
  nz : ∀ x ∈ l, 2 ≤ x
theorem Here.frz {s : AS} {l : List Nat} {n m : Nat} (h : Here s l) (hn : 2 ≤ n) (hm : n ≤ m) {F : List (Nat × List AV)} (hF : F = [(0, wf)] ∨ F = [(0, wf), (1, lf)]) :
    ∀ x ∈ F, x.1 < m ∧ x.1 ∉ List.range' n l.length ∧ namess (fun _ => false) x.2 = true ∧ (∃ ro, s.get (pL n l x.1) = some (.cells ro x.2)) ∧ ∀ b ∈ List.range' n l.length, pL n l b ≠ pL n l x.1 := by
  have k0 : ∀ x : Nat, x < 2 → x < m ∧ x ∉ List.range' n l.length ∧ ∀ b ∈ List.range' n l.length, pL n l b ≠ x := by
    intro x hx
    refine ⟨by omega, ?_, fun b hb he => ?_⟩
    · rw [List.mem_range'_1]
      omega
    · have := h.nz _ (pL_mem b hb)
      omega
  intro x hx
  have : x = (0, wf) ∨ x = (1, lf) := by
    rcases hF with rfl | rfl
    · simp only [List.mem_cons, List.not_mem_nil, or_false] at hx
      exact .inl hx
    · simpa using hx
  rcases this with rfl | rfl
  · obtain ⟨a1, a2, a3⟩ := k0 0 (by omega)
    refine ⟨a1, a2, rfl, ?_, ?_⟩
    · rw [pL_low (by omega)]
      exact h.h0
    · rw [pL_low (by omega)]
      exact a3
  · obtain ⟨a1, a2, a3⟩ := k0 1 (by omega)
    refine ⟨a1, a2, rfl, ?_, ?_⟩
    · rw [pL_low (by omega)]
      exact h.h1
    · rw [pL_low (by omega)]
      exact a3
/-! ### refs that were retired -/
def rk (x : Int × Nat) : List AV := [.int .i64 x.1, .int .u32 (Int.ofNat x.2), .bool false]
def hadE (l : List (Int × Nat)) : List (AV × AV) := l.map fun x => (.agg (rk x), .int .i64 (Int.ofNat 1))
def hadO (l : List (Int × Nat)) : AObj := .map (hadE l) (List.range l.length) l.length
theorem eqR_bif (s : AS) (a1 : Int) (a2 : Nat) (b1 : Int) (b2 : Nat) : eqA Tryz.prog s 8 35 (.agg [.int .i64 a1, .int .u32 (Int.ofNat a2), .bool false]) (.agg [.int .i64 b1, .int .u32 (Int.ofNat b2), .bool false]) =
    (bif a1 == b1 then (bif Int.ofNat a2 == Int.ofNat b2 then some true else some false) else some false) := by kernel_rfl
theorem eqR (s : AS) (a b : Int × Nat) : eqA Tryz.prog s 8 35 (.agg (rk a)) (.agg (rk b)) = some (decide (a = b)) := by
  obtain ⟨a1, a2⟩ := a
  obtain ⟨b1, b2⟩ := b
  refine (eqR_bif s a1 a2 b1 b2).trans ?_
  by_cases h1 : a1 = b1
  · by_cases h2 : a2 = b2
    · simp [h1, h2]
    · have : (Int.ofNat a2 == Int.ofNat b2) = false := by simp; omega
      rw [this]
      simp [h1, h2]
  · have : (a1 == b1) = false := by simpa using h1
    rw [this]
    simp [h1]
theorem find_had (s : AS) (a : Int × Nat) : ∀ (l : List (Int × Nat)) (i : Nat), (a ∉ l → findA Tryz.prog s 35 (.agg (rk a)) (hadE l) i = some none) ∧ (a ∈ l → ∃ j k, findA Tryz.prog s 35 (.agg (rk a)) (hadE l) i = some (some (j, k, .int .i64 (Int.ofNat 1))))
  | [], _ => ⟨fun _ => rfl, fun h => by cases h⟩
  | x :: t, i => by
    have he := eqR s a x
    obtain ⟨h1, h2⟩ := find_had s a t (i + 1)
    rw [show hadE (x :: t) = (.agg (rk x), .int .i64 (Int.ofNat 1)) :: hadE t from rfl]
    by_cases h : a = x
    · have hd : decide (a = x) = true := by simpa using h
      rw [hd] at he
      refine ⟨fun hn => absurd (by rw [h]; exact List.mem_cons_self) hn, fun _ => ⟨i, .agg (rk x), by simp only [findA, he]⟩⟩
    · have hd : decide (a = x) = false := by simpa using h
      rw [hd] at he
      refine ⟨fun hn => ?_, fun hm => ?_⟩
      · simp only [findA, he]
        exact h1 fun hm => hn (List.mem_cons_of_mem _ hm)
      · simp only [findA, he]
        rcases List.mem_cons.1 hm with e | hm
        · exact absurd e h
        · exact h2 hm
theorem uHad : Tryz.prog.underlying 107 = some (.map 35 3) := by kernel_rfl
theorem keyR (a : Int × Nat) : keyA Tryz.prog 4 35 (.agg (rk a)) = true := by
  obtain ⟨z, g⟩ := a
  show keyA Tryz.prog 4 35 (.agg [.int .i64 z, .int .u32 (Int.ofNat g), .bool false]) = true
  kernel_rfl
theorem zI : zeroA Tryz.prog 3 = some (ii 0) := by kernel_rfl
theorem lk_had0 {s : AS} {b : Nat} {l : List (Int × Nat)} {a : Int × Nat} (h : a ∉ l) (hs : s.get b = some (hadO l)) : lookupA Tryz.prog s 107 (.map b) (.agg (rk a)) false = some (.int .i64 (Int.ofNat 0)) := by
  simp only [lookupA, uHad, keyR, if_true, mapOf, hs, hadO, (find_had s a l 0).1 h, zI, Bool.false_eq_true, if_false]
theorem lk_had1 {s : AS} {b : Nat} {l : List (Int × Nat)} {a : Int × Nat} (h : a ∈ l) (hs : s.get b = some (hadO l)) : lookupA Tryz.prog s 107 (.map b) (.agg (rk a)) false = some (.int .i64 (Int.ofNat 1)) := by
  obtain ⟨j, k, hf⟩ := (find_had s a l 0).2 h
  simp only [lookupA, uHad, keyR, if_true, mapOf, hs, hadO, hf, Bool.false_eq_true, if_false]
theorem upd_had {s : AS} {b : Nat} {l : List (Int × Nat)} {a : Int × Nat} (h : a ∉ l) (hs : s.get b = some (hadO l)) : updateA Tryz.prog s 107 (.map b) (.agg (rk a)) (.int .i64 (Int.ofNat 1)) = some (s.set b (hadO (l ++ [a]))) := by
  simp only [updateA, uHad, keyR, if_true, mapAt, hs, hadO, (find_had s a l 0).1 h]
  have e : hadO (l ++ [a]) = .map (hadE l ++ [(.agg (rk a), .int .i64 (Int.ofNat 1))]) (List.range l.length ++ [l.length]) (l.length + 1) := by
    unfold hadO hadE
    rw [List.map_append, List.length_append, List.length_singleton, List.range_succ]
    rfl
  rw [← e]
  rfl
theorem hadE_names (p : Nat → Bool) : ∀ l, namesE p (hadE l) = true
  | [] => rfl
  | x :: t => by show (true && true && namesE p (hadE t)) = true; rw [hadE_names p t]; rfl
theorem hadE_ren (π : Nat → Nat) : ∀ l, renE π (hadE l) = hadE l
  | [] => rfl
  | x :: t => by show _ :: renE π (hadE t) = _; rw [hadE_ren π t]; rfl
theorem hadO_names (p : Nat → Bool) (l : List (Int × Nat)) : (hadO l).names p = true := hadE_names p l
theorem hadO_ren (π : Nat → Nat) (l : List (Int × Nat)) : (hadO l).ren π = hadO l := by
  show AObj.map (renE π (hadE l)) _ _ = _
  rw [hadE_ren]
  rfl
theorem rowE : rowT Tryz.prog 32 32 6 = true := by kernel_rfl
/-! ### Retire's last step, wherever it lies -/
def gcl (xl : Nat) : List AV := [.bool false, .int .u8 (Int.ofNat 0), .int .u64 (Int.ofNat 0), .int .u64 (Int.ofNat 0), .int .u64 (Int.ofNat 0), .int .u64 (Int.ofNat 0), .bool true, .int .i64 (Int.ofNat 0), .ptr xl 0]
def Ecl (z : Int) (g bi ep er : Nat) : List AV := [.int .i64 z, .int .u32 (Int.ofNat g), .bool false, .int .u64 (Int.ofNat bi), .int .u64 (Int.ofNat ep), .int .u64 (Int.ofNat er)]
theorem q_ref (s : AS) (z : Int) (g : Nat) : (Qst.eqv s 35 [.int .i64 z, .int .u32 (Int.ofNat g), .bool false] [.int .i64 z, .int .u32 (Int.ofNat g), .bool false] true (.bool true)).ok Tryz.prog := by
  refine ⟨true, ?_, rfl⟩
  have gd : guardA Tryz.prog 35 (.agg (rk (z, g))) (.agg (rk (z, g))) = true := by
    show (!Tryz.prog.eqGuardType Tryz.prog.depth 35) = true
    kernel_rfl
  have := eqR s (z, g) (z, g)
  show eqlA Tryz.prog s 35 (.agg (rk (z, g))) (.agg (rk (z, g))) = some true
  simp only [eqlA, gd, if_true, this, decide_true]
theorem namess_app (p : Nat → Bool) : ∀ (a b : List AV), namess p (a ++ b) = (namess p a && namess p b)
  | [], b => rfl
  | x :: a, b => by
    show (x.names p && namess p (a ++ b)) = ((x.names p && namess p a) && namess p b)
    rw [namess_app p a b, Bool.and_assoc]
theorem rs6a_at {s : AS} {b bm xa xg xl : Nat} {M : PM} {z : Int} {g0 bi ep er : Nat} (hH : Here s [b, bm, xa, xg, xl]) (hb : s.get b = some (.cells false (M.C (.map bm)))) (hm : s.get bm = some (mapO M.ms)) (ha : s.get xa = some (.cells false (Rcl xg 6 z g0 bi ep er)))
    (hg : s.get xg = some (.cells false (gcl xl))) (hl : s.get xl = some (.cells false [.nilSlice, .nilMap])) (hz : 0 ≤ z ∧ z < 256) (hg0 : g0 < 4294967296) :
    Sound Tryz.prog (.call 63 [.ptr xa 0, .ptr b 0] s) ⟨.ret, [.bool true], ((((((s.set b (.cells false ((M.store (aL z 0) (mkw 2 g0)).C (.map bm)))).set bm (mapO (M.store (aL z 0) (mkw 2 g0)).ms)).set xa (.cells false (Rcl xg 0 z g0 bi ep er))).set xg (.cells false (gcl xl))).set xl (.cells false [.osl (s.nx + 1) 0 1 6, .map s.nx])).push (hadO [(z, g0)])).push (.cells false (Ecl z g0 bi ep er))⟩ := by
  have hr := runX_sound mixed none_sound (rs_6a er bi ep (mkw 2 g0) g0 0 z M (M.store (aL z 0) (mkw 2 g0)) (mapO M.ms) (mapO (M.store (aL z 0) (mkw 2 g0)).ms) .dead .dead (.bool false) (.int .u8 (Int.ofNat 0)) (.int .u64 (Int.ofNat 0)) (.int .u64 (Int.ofNat 0)) (.int .u64 (Int.ofNat 0)) (.int .u64 (Int.ofNat 0)) (.bool true) (.int .i64 (Int.ofNat 0)) [] [])
    ⟨fun s hs => header_call 2 g0 (by omega) hg0 s hs, pstore_at (b := 4) (bm := 5) (m := M) rfl rfl (aL z 0) (show (0 : Int) ≤ 9 by decide) (mkw 2 g0), q_ref _ z g0, by simp [Qst.ok]; omega, by simp [Qst.ok]; omega, trivial⟩
  have hp := Sound.putFG (P := Tryz.prog) (f := 63) (Fz := [(0, wf)]) hr (pL 4 [b, bm, xa, xg, xl]) (globL (n := 4) (m := 9) (by omega) (by omega)) [13, 15] s (hH.frz (n := 4) (m := 9) (by omega) (by omega) (.inl rfl))
    ⟨⟨show 4 < 9 by decide, rfl, rfl, rfl, hb, .inl rfl, rfl⟩, ⟨show 5 < 9 by decide, rfl, mapO_names _ _, rfl, by rw [mapO_ren]; exact hm, .inl rfl, mapO_names _ _⟩, ⟨show 6 < 9 by decide, rfl, rfl, rfl, ha, .inl rfl, rfl⟩, ⟨show 7 < 9 by decide, rfl, rfl, rfl, hg, .inl rfl, rfl⟩, ⟨show 8 < 9 by decide, rfl, rfl, rfl, hl, .inl rfl, rfl⟩, trivial⟩
    (pL_inj (n := 4) hH.nd) (show [4, 5, 6, 7, 8].Nodup by decide) (by decide) (fun b hb => by
      simp only [List.mem_cons, List.not_mem_nil, or_false] at hb
      rcases hb with rfl | rfl <;> exact ⟨by decide, rfl, rfl⟩) rfl rfl
  change Sound Tryz.prog _ ⟨_, _, ((((((s.set b (.cells false ((M.store (aL z 0) (mkw 2 g0)).C (.map bm)))).set bm ((mapO (M.store (aL z 0) (mkw 2 g0)).ms).ren _)).set xa (.cells false (Rcl xg 0 z g0 bi ep er))).set xg (.cells false (gcl xl))).set xl (.cells false [.osl (s.nx + 1) 0 1 6, .map s.nx])).push (hadO [(z, g0)])).push (.cells false (Ecl z g0 bi ep er))⟩ at hp
  rw [mapO_ren] at hp
  exact hp
set_option maxRecDepth 100000 in
theorem rs6b_at {s : AS} {b bm xa xg xl bh be : Nat} {M : PM} {z : Int} {g0 bi ep er : Nat} {l : List (Int × Nat)} {R : List AV} (hH : Here s [b, bm, xa, xg, xl, bh, be]) (hb : s.get b = some (.cells false (M.C (.map bm)))) (hm : s.get bm = some (mapO M.ms)) (ha : s.get xa = some (.cells false (Rcl xg 6 z g0 bi ep er)))
    (hg : s.get xg = some (.cells false (gcl xl))) (hl : s.get xl = some (.cells false [.osl be 0 l.length 6, .map bh])) (hh : s.get bh = some (hadO l)) (he : s.get be = some (.cells false R)) (hR : R.length = l.length * 6) (ho : R.all AV.one = true) (hn : namess (fun _ => false) R = true) (hk : l.length < 16777216)
    (hz : 0 ≤ z ∧ z < 256) (hg0 : g0 < 4294967296) (hnew : (z, g0) ∉ l) :
    Sound Tryz.prog (.call 63 [.ptr xa 0, .ptr b 0] s) ⟨.ret, [.bool true], (((((((s.set b (.cells false ((M.store (aL z 0) (mkw 2 g0)).C (.map bm)))).set bm (mapO (M.store (aL z 0) (mkw 2 g0)).ms)).set xa (.cells false (Rcl xg 0 z g0 bi ep er))).set xg (.cells false (gcl xl))).set xl (.cells false [.osl s.nx 0 (l.length + 1) 6, .map bh])).set bh (hadO (l ++ [(z, g0)]))).set be .dead).push (.cells false (R ++ Ecl z g0 bi ep er))⟩ := by
  have hr := runX_sound mixed none_sound (rs_6b er bi ep (mkw 2 g0) g0 l.length z M (M.store (aL z 0) (mkw 2 g0)) (mapO M.ms) (mapO (M.store (aL z 0) (mkw 2 g0)).ms) (hadO l) (hadO (l ++ [(z, g0)])) (.bool false) (.int .u8 (Int.ofNat 0)) (.int .u64 (Int.ofNat 0)) (.int .u64 (Int.ofNat 0)) (.int .u64 (Int.ofNat 0)) (.int .u64 (Int.ofNat 0)) (.bool true) (.int .i64 (Int.ofNat 0)) R (R ++ Ecl z g0 bi ep er))
    ⟨fun s hs => header_call 2 g0 (by omega) hg0 s hs, pstore_at (b := 4) (bm := 5) (m := M) rfl rfl (aL z 0) (show (0 : Int) ≤ 9 by decide) (mkw 2 g0), q_ref _ z g0, by simp [Qst.ok]; omega, by simp [Qst.ok]; omega, lk_had0 hnew rfl, ⟨upd_had hnew rfl, rfl⟩, app_osl rowE rfl hR ho rfl rfl rfl hk, trivial⟩
  have hnE : ∀ p : Nat → Bool, namess p (R ++ Ecl z g0 bi ep er) = true := fun p => by
    rw [namess_app, namess_sub (fun _ h => by cases h) hn]
    rfl
  have hren : ∀ π : Nat → Nat, rens π (R ++ Ecl z g0 bi ep er) = R ++ Ecl z g0 bi ep er := fun π => rens_no (hnE _)
  have hp := Sound.putFG (P := Tryz.prog) (f := 63) (Fz := [(0, wf)]) hr (pL 4 [b, bm, xa, xg, xl, bh, be]) (globL (n := 4) (m := 11) (by omega) (by omega)) [16] s (hH.frz (n := 4) (m := 11) (by omega) (by omega) (.inl rfl))
    ⟨⟨show 4 < 11 by decide, rfl, rfl, rfl, hb, .inl rfl, rfl⟩, ⟨show 5 < 11 by decide, rfl, mapO_names _ _, rfl, by rw [mapO_ren]; exact hm, .inl rfl, mapO_names _ _⟩, ⟨show 6 < 11 by decide, rfl, rfl, rfl, ha, .inl rfl, rfl⟩, ⟨show 7 < 11 by decide, rfl, rfl, rfl, hg, .inl rfl, rfl⟩, ⟨show 8 < 11 by decide, rfl, rfl, rfl, hl, .inl rfl, rfl⟩,
      ⟨show 9 < 11 by decide, rfl, hadO_names _ _, rfl, by rw [hadO_ren]; exact hh, .inl rfl, hadO_names _ _⟩, ⟨show 10 < 11 by decide, rfl, namess_sub (fun _ h => by cases h) hn, rfl, by show _ = some (AObj.cells false (rens _ R)); rw [rens_no hn]; exact he, .inr rfl, rfl⟩, trivial⟩
    (pL_inj (n := 4) hH.nd) (show [4, 5, 6, 7, 8, 9, 10].Nodup by decide) (by decide) (fun b hb => by
      simp only [List.mem_cons, List.not_mem_nil, or_false] at hb
      subst hb
      exact ⟨by decide, rfl, hnE _⟩) rfl rfl
  change Sound Tryz.prog _ ⟨_, _, (((((((s.set b (.cells false ((M.store (aL z 0) (mkw 2 g0)).C (.map bm)))).set bm ((mapO (M.store (aL z 0) (mkw 2 g0)).ms).ren _)).set xa (.cells false (Rcl xg 0 z g0 bi ep er))).set xg (.cells false (gcl xl))).set xl (.cells false [.osl s.nx 0 (l.length + 1) 6, .map bh])).set bh ((hadO (l ++ [(z, g0)])).ren _)).set be .dead).push (.cells false (rens _ (R ++ Ecl z g0 bi ep er)))⟩ at hp
  rw [mapO_ren, hadO_ren, hren] at hp
  exact hp
set_option maxRecDepth 100000 in
theorem rs6c_at {s : AS} {b bm xa xg xl bh be : Nat} {M : PM} {z : Int} {g0 bi ep er : Nat} {l : List (Int × Nat)} {R : List AV} (hH : Here s [b, bm, xa, xg, xl, bh, be]) (hb : s.get b = some (.cells false (M.C (.map bm)))) (hm : s.get bm = some (mapO M.ms)) (ha : s.get xa = some (.cells false (Rcl xg 6 z g0 bi ep er)))
    (hg : s.get xg = some (.cells false (gcl xl))) (hl : s.get xl = some (.cells false [.osl be 0 l.length 6, .map bh])) (hh : s.get bh = some (hadO l)) (he : s.get be = some (.cells false R)) (hn : namess (fun _ => false) R = true)
    (hz : 0 ≤ z ∧ z < 256) (hg0 : g0 < 4294967296) (hold : (z, g0) ∈ l) :
    Sound Tryz.prog (.call 63 [.ptr xa 0, .ptr b 0] s) ⟨.ret, [.bool true], ((((((s.set b (.cells false ((M.store (aL z 0) (mkw 2 g0)).C (.map bm)))).set bm (mapO (M.store (aL z 0) (mkw 2 g0)).ms)).set xa (.cells false (Rcl xg 0 z g0 bi ep er))).set xg (.cells false (gcl xl))).set xl (.cells false [.osl be 0 l.length 6, .map bh])).set bh (hadO l)).set be (.cells false R)⟩ := by
  have hr := runX_sound mixed none_sound (rs_6c er bi ep (mkw 2 g0) g0 l.length z M (M.store (aL z 0) (mkw 2 g0)) (mapO M.ms) (mapO (M.store (aL z 0) (mkw 2 g0)).ms) (hadO l) .dead (.bool false) (.int .u8 (Int.ofNat 0)) (.int .u64 (Int.ofNat 0)) (.int .u64 (Int.ofNat 0)) (.int .u64 (Int.ofNat 0)) (.int .u64 (Int.ofNat 0)) (.bool true) (.int .i64 (Int.ofNat 0)) R [])
    ⟨fun s hs => header_call 2 g0 (by omega) hg0 s hs, pstore_at (b := 4) (bm := 5) (m := M) rfl rfl (aL z 0) (show (0 : Int) ≤ 9 by decide) (mkw 2 g0), q_ref _ z g0, by simp [Qst.ok]; omega, by simp [Qst.ok]; omega, lk_had1 hold rfl, trivial⟩
  have hp := Sound.putFG (P := Tryz.prog) (f := 63) (Fz := [(0, wf)]) hr (pL 4 [b, bm, xa, xg, xl, bh, be]) (globL (n := 4) (m := 11) (by omega) (by omega)) [] s (hH.frz (n := 4) (m := 11) (by omega) (by omega) (.inl rfl))
    ⟨⟨show 4 < 11 by decide, rfl, rfl, rfl, hb, .inl rfl, rfl⟩, ⟨show 5 < 11 by decide, rfl, mapO_names _ _, rfl, by rw [mapO_ren]; exact hm, .inl rfl, mapO_names _ _⟩, ⟨show 6 < 11 by decide, rfl, rfl, rfl, ha, .inl rfl, rfl⟩, ⟨show 7 < 11 by decide, rfl, rfl, rfl, hg, .inl rfl, rfl⟩, ⟨show 8 < 11 by decide, rfl, rfl, rfl, hl, .inl rfl, rfl⟩,
      ⟨show 9 < 11 by decide, rfl, hadO_names _ _, rfl, by rw [hadO_ren]; exact hh, .inl rfl, hadO_names _ _⟩, ⟨show 10 < 11 by decide, rfl, namess_sub (fun _ h => by cases h) hn, rfl, by show _ = some (AObj.cells false (rens _ R)); rw [rens_no hn]; exact he, .inl rfl, namess_sub (fun _ h => by cases h) hn⟩, trivial⟩
    (pL_inj (n := 4) hH.nd) (show [4, 5, 6, 7, 8, 9, 10].Nodup by decide) List.nodup_nil (fun _ h => by cases h) rfl rfl
  change Sound Tryz.prog _ ⟨_, _, ((((((s.set b (.cells false ((M.store (aL z 0) (mkw 2 g0)).C (.map bm)))).set bm ((mapO (M.store (aL z 0) (mkw 2 g0)).ms).ren _)).set xa (.cells false (Rcl xg 0 z g0 bi ep er))).set xg (.cells false (gcl xl))).set xl (.cells false [.osl be 0 l.length 6, .map bh])).set bh ((hadO l).ren _)).set be (.cells false (rens _ R))⟩ at hp
  rw [mapO_ren, hadO_ren, rens_no hn] at hp
  exact hp
/-! ### ghosts.Step without ghosts, with one -/
theorem sn_A (a : Ac) (m c _ _ : Nat) : runX Tryz.prog none_ 80 23 (.call 23 [.agg (acC a), .nilSlice, .int .u32 (Int.ofNat m)] (startS Tryz.prog G2)) [.pure 106 1 1 [] (.bool true), .pure 106 1 8 G2 (i8 c), .val 106 1 9 (.bool true)] = some ({ e := .ret, ts := [i8 1], s := ⟨⟨[(0, .cells true wf), (1, .cells true lf)], 2, none, []⟩, 6⟩ }, [], [Qst.pure [] 107 [.agg [.int .u8 a.kd, .int .u8 a.ak, .int .i64 a.pl, .int .i64 a.fd, .int .u64 (Int.ofNat a.wa), .int .u64 (Int.ofNat a.nw), .bool a.dn]] (.bool true), Qst.pure [(0, wf), (1, lf)] 108 [.int .u64 (Int.ofNat a.wa), .int .u64 (Int.ofNat a.nw), .int .u32 (Int.ofNat m)] (i8 c), Qst.val (some (.bool (Int.ofNat c == Int.ofNat 0))) (.bool true)]) := by kernel_rfl
theorem sn_B0f (a : Ac) (m c s g : Nat) : runX Tryz.prog none_ 80 23 (.call 23 [.agg (acC a), .nilSlice, .int .u32 (Int.ofNat m)] (startS Tryz.prog G2)) [.pure 106 1 1 [] (.bool true), .pure 106 1 8 G2 (i8 c), .val 106 1 9 (.bool false), .pure 109 1 5 G2 (i8 c), .pure 109 2 2 G (.tuple [i8 s, .int .u32 (Int.ofNat g)]), .pure 109 3 1 [] (.bool true), .val 109 3 4 (.bool true), .val 111 1 3 (.bool false)] = some ({ e := .ret, ts := [i8 0], s := ⟨⟨[(0, .cells true wf), (1, .cells true lf)], 2, none, []⟩, 13⟩ }, [], [Qst.pure [] 107 [.agg [.int .u8 a.kd, .int .u8 a.ak, .int .i64 a.pl, .int .i64 a.fd, .int .u64 (Int.ofNat a.wa), .int .u64 (Int.ofNat a.nw), .bool a.dn]] (.bool true), Qst.pure [(0, wf), (1, lf)] 108 [.int .u64 (Int.ofNat a.wa), .int .u64 (Int.ofNat a.nw), .int .u32 (Int.ofNat m)] (i8 c), Qst.val (some (.bool (Int.ofNat c == Int.ofNat 0))) (.bool false), Qst.pure [(0, wf), (1, lf)] 108 [.int .u64 (Int.ofNat a.wa), .int .u64 (Int.ofNat a.nw), .int .u32 (Int.ofNat m)] (i8 c), Qst.pure [(0, wf)] 61 [.int .u64 (Int.ofNat a.wa)] (.tuple [i8 s, .int .u32 (Int.ofNat g)]), Qst.pure [] 107 [.agg [.int .u8 a.kd, .int .u8 a.ak, .int .i64 a.pl, .int .i64 a.fd, .int .u64 (Int.ofNat a.wa), .int .u64 (Int.ofNat a.nw), .bool a.dn]] (.bool true), Qst.val (some (.bool (Int.ofNat c == Int.ofNat 3))) (.bool true), Qst.val (some (.bool (a.ak == Int.ofNat 6))) (.bool false)]) := by kernel_rfl
theorem sn_B1f (a : Ac) (m c s g : Nat) : runX Tryz.prog none_ 80 23 (.call 23 [.agg (acC a), .nilSlice, .int .u32 (Int.ofNat m)] (startS Tryz.prog G2)) [.pure 106 1 1 [] (.bool true), .pure 106 1 8 G2 (i8 c), .val 106 1 9 (.bool false), .pure 109 1 5 G2 (i8 c), .pure 109 2 2 G (.tuple [i8 s, .int .u32 (Int.ofNat g)]), .pure 109 3 1 [] (.bool true), .val 109 3 4 (.bool false), .val 109 3 7 (.bool true), .val 111 1 3 (.bool false)] = some ({ e := .ret, ts := [i8 0], s := ⟨⟨[(0, .cells true wf), (1, .cells true lf)], 2, none, []⟩, 13⟩ }, [], [Qst.pure [] 107 [.agg [.int .u8 a.kd, .int .u8 a.ak, .int .i64 a.pl, .int .i64 a.fd, .int .u64 (Int.ofNat a.wa), .int .u64 (Int.ofNat a.nw), .bool a.dn]] (.bool true), Qst.pure [(0, wf), (1, lf)] 108 [.int .u64 (Int.ofNat a.wa), .int .u64 (Int.ofNat a.nw), .int .u32 (Int.ofNat m)] (i8 c), Qst.val (some (.bool (Int.ofNat c == Int.ofNat 0))) (.bool false), Qst.pure [(0, wf), (1, lf)] 108 [.int .u64 (Int.ofNat a.wa), .int .u64 (Int.ofNat a.nw), .int .u32 (Int.ofNat m)] (i8 c), Qst.pure [(0, wf)] 61 [.int .u64 (Int.ofNat a.wa)] (.tuple [i8 s, .int .u32 (Int.ofNat g)]), Qst.pure [] 107 [.agg [.int .u8 a.kd, .int .u8 a.ak, .int .i64 a.pl, .int .i64 a.fd, .int .u64 (Int.ofNat a.wa), .int .u64 (Int.ofNat a.nw), .bool a.dn]] (.bool true), Qst.val (some (.bool (Int.ofNat c == Int.ofNat 3))) (.bool false), Qst.val (some (.bool (Int.ofNat c == Int.ofNat 4))) (.bool true), Qst.val (some (.bool (a.ak == Int.ofNat 6))) (.bool false)]) := by kernel_rfl
theorem sn_B2f (a : Ac) (m c s g : Nat) : runX Tryz.prog none_ 80 23 (.call 23 [.agg (acC a), .nilSlice, .int .u32 (Int.ofNat m)] (startS Tryz.prog G2)) [.pure 106 1 1 [] (.bool true), .pure 106 1 8 G2 (i8 c), .val 106 1 9 (.bool false), .pure 109 1 5 G2 (i8 c), .pure 109 2 2 G (.tuple [i8 s, .int .u32 (Int.ofNat g)]), .pure 109 3 1 [] (.bool true), .val 109 3 4 (.bool false), .val 109 3 7 (.bool false), .val 109 3 11 (.bool true), .val 111 1 3 (.bool false)] = some ({ e := .ret, ts := [i8 0], s := ⟨⟨[(0, .cells true wf), (1, .cells true lf)], 2, none, []⟩, 13⟩ }, [], [Qst.pure [] 107 [.agg [.int .u8 a.kd, .int .u8 a.ak, .int .i64 a.pl, .int .i64 a.fd, .int .u64 (Int.ofNat a.wa), .int .u64 (Int.ofNat a.nw), .bool a.dn]] (.bool true), Qst.pure [(0, wf), (1, lf)] 108 [.int .u64 (Int.ofNat a.wa), .int .u64 (Int.ofNat a.nw), .int .u32 (Int.ofNat m)] (i8 c), Qst.val (some (.bool (Int.ofNat c == Int.ofNat 0))) (.bool false), Qst.pure [(0, wf), (1, lf)] 108 [.int .u64 (Int.ofNat a.wa), .int .u64 (Int.ofNat a.nw), .int .u32 (Int.ofNat m)] (i8 c), Qst.pure [(0, wf)] 61 [.int .u64 (Int.ofNat a.wa)] (.tuple [i8 s, .int .u32 (Int.ofNat g)]), Qst.pure [] 107 [.agg [.int .u8 a.kd, .int .u8 a.ak, .int .i64 a.pl, .int .i64 a.fd, .int .u64 (Int.ofNat a.wa), .int .u64 (Int.ofNat a.nw), .bool a.dn]] (.bool true), Qst.val (some (.bool (Int.ofNat c == Int.ofNat 3))) (.bool false), Qst.val (some (.bool (Int.ofNat c == Int.ofNat 4))) (.bool false), Qst.val (some (.bool (Int.ofNat c == Int.ofNat 5))) (.bool true), Qst.val (some (.bool (a.ak == Int.ofNat 6))) (.bool false)]) := by kernel_rfl
theorem sn_B3 (a : Ac) (m c s g : Nat) : runX Tryz.prog none_ 80 23 (.call 23 [.agg (acC a), .nilSlice, .int .u32 (Int.ofNat m)] (startS Tryz.prog G2)) [.pure 106 1 1 [] (.bool true), .pure 106 1 8 G2 (i8 c), .val 106 1 9 (.bool false), .pure 109 1 5 G2 (i8 c), .pure 109 2 2 G (.tuple [i8 s, .int .u32 (Int.ofNat g)]), .pure 109 3 1 [] (.bool true), .val 109 3 4 (.bool false), .val 109 3 7 (.bool false), .val 109 3 11 (.bool false), .val 111 1 3 (.bool false)] = some ({ e := .ret, ts := [i8 0], s := ⟨⟨[(0, .cells true wf), (1, .cells true lf)], 2, none, []⟩, 10⟩ }, [], [Qst.pure [] 107 [.agg [.int .u8 a.kd, .int .u8 a.ak, .int .i64 a.pl, .int .i64 a.fd, .int .u64 (Int.ofNat a.wa), .int .u64 (Int.ofNat a.nw), .bool a.dn]] (.bool true), Qst.pure [(0, wf), (1, lf)] 108 [.int .u64 (Int.ofNat a.wa), .int .u64 (Int.ofNat a.nw), .int .u32 (Int.ofNat m)] (i8 c), Qst.val (some (.bool (Int.ofNat c == Int.ofNat 0))) (.bool false), Qst.pure [(0, wf), (1, lf)] 108 [.int .u64 (Int.ofNat a.wa), .int .u64 (Int.ofNat a.nw), .int .u32 (Int.ofNat m)] (i8 c), Qst.pure [(0, wf)] 61 [.int .u64 (Int.ofNat a.wa)] (.tuple [i8 s, .int .u32 (Int.ofNat g)]), Qst.pure [] 107 [.agg [.int .u8 a.kd, .int .u8 a.ak, .int .i64 a.pl, .int .i64 a.fd, .int .u64 (Int.ofNat a.wa), .int .u64 (Int.ofNat a.nw), .bool a.dn]] (.bool true), Qst.val (some (.bool (Int.ofNat c == Int.ofNat 3))) (.bool false), Qst.val (some (.bool (Int.ofNat c == Int.ofNat 4))) (.bool false), Qst.val (some (.bool (Int.ofNat c == Int.ofNat 5))) (.bool false), Qst.val (some (.bool (a.ak == Int.ofNat 6))) (.bool false)]) := by kernel_rfl
theorem sn_C0 (a : Ac) (m c s g : Nat) : runX Tryz.prog none_ 80 23 (.call 23 [.agg (acC a), .nilSlice, .int .u32 (Int.ofNat m)] (startS Tryz.prog G2)) [.pure 106 1 1 [] (.bool false), .pure 109 1 5 G2 (i8 c), .pure 109 2 2 G (.tuple [i8 s, .int .u32 (Int.ofNat g)]), .pure 109 3 1 [] (.bool false), .val 111 1 3 (.bool false)] = some ({ e := .ret, ts := [i8 0], s := ⟨⟨[(0, .cells true wf), (1, .cells true lf)], 2, none, []⟩, 10⟩ }, [], [Qst.pure [] 107 [.agg [.int .u8 a.kd, .int .u8 a.ak, .int .i64 a.pl, .int .i64 a.fd, .int .u64 (Int.ofNat a.wa), .int .u64 (Int.ofNat a.nw), .bool a.dn]] (.bool false), Qst.pure [(0, wf), (1, lf)] 108 [.int .u64 (Int.ofNat a.wa), .int .u64 (Int.ofNat a.nw), .int .u32 (Int.ofNat m)] (i8 c), Qst.pure [(0, wf)] 61 [.int .u64 (Int.ofNat a.wa)] (.tuple [i8 s, .int .u32 (Int.ofNat g)]), Qst.pure [] 107 [.agg [.int .u8 a.kd, .int .u8 a.ak, .int .i64 a.pl, .int .i64 a.fd, .int .u64 (Int.ofNat a.wa), .int .u64 (Int.ofNat a.nw), .bool a.dn]] (.bool false), Qst.val (some (.bool (a.ak == Int.ofNat 6))) (.bool false)]) := by kernel_rfl
theorem sn_C1 (a : Ac) (m c s g : Nat) : runX Tryz.prog none_ 80 23 (.call 23 [.agg (acC a), .nilSlice, .int .u32 (Int.ofNat m)] (startS Tryz.prog G2)) [.pure 106 1 1 [] (.bool false), .pure 109 1 5 G2 (i8 c), .pure 109 2 2 G (.tuple [i8 s, .int .u32 (Int.ofNat g)]), .pure 109 3 1 [] (.bool false), .val 111 1 3 (.bool true), .val 111 1 8 (.bool false)] = some ({ e := .ret, ts := [i8 0], s := ⟨⟨[(0, .cells true wf), (1, .cells true lf)], 2, none, []⟩, 10⟩ }, [], [Qst.pure [] 107 [.agg [.int .u8 a.kd, .int .u8 a.ak, .int .i64 a.pl, .int .i64 a.fd, .int .u64 (Int.ofNat a.wa), .int .u64 (Int.ofNat a.nw), .bool a.dn]] (.bool false), Qst.pure [(0, wf), (1, lf)] 108 [.int .u64 (Int.ofNat a.wa), .int .u64 (Int.ofNat a.nw), .int .u32 (Int.ofNat m)] (i8 c), Qst.pure [(0, wf)] 61 [.int .u64 (Int.ofNat a.wa)] (.tuple [i8 s, .int .u32 (Int.ofNat g)]), Qst.pure [] 107 [.agg [.int .u8 a.kd, .int .u8 a.ak, .int .i64 a.pl, .int .i64 a.fd, .int .u64 (Int.ofNat a.wa), .int .u64 (Int.ofNat a.nw), .bool a.dn]] (.bool false), Qst.val (some (.bool (a.ak == Int.ofNat 6))) (.bool true), Qst.val (some (.bool (a.fd == Int.ofNat 0))) (.bool false)]) := by kernel_rfl
theorem sn_C2 (a : Ac) (m c s g : Nat) : runX Tryz.prog none_ 80 23 (.call 23 [.agg (acC a), .nilSlice, .int .u32 (Int.ofNat m)] (startS Tryz.prog G2)) [.pure 106 1 1 [] (.bool false), .pure 109 1 5 G2 (i8 c), .pure 109 2 2 G (.tuple [i8 s, .int .u32 (Int.ofNat g)]), .pure 109 3 1 [] (.bool false), .val 111 1 3 (.bool true), .val 111 1 8 (.bool true), .val 111 1 15 (.bool false)] = some ({ e := .ret, ts := [i8 0], s := ⟨⟨[(0, .cells true wf), (1, .cells true lf)], 2, none, []⟩, 10⟩ }, [], [Qst.pure [] 107 [.agg [.int .u8 a.kd, .int .u8 a.ak, .int .i64 a.pl, .int .i64 a.fd, .int .u64 (Int.ofNat a.wa), .int .u64 (Int.ofNat a.nw), .bool a.dn]] (.bool false), Qst.pure [(0, wf), (1, lf)] 108 [.int .u64 (Int.ofNat a.wa), .int .u64 (Int.ofNat a.nw), .int .u32 (Int.ofNat m)] (i8 c), Qst.pure [(0, wf)] 61 [.int .u64 (Int.ofNat a.wa)] (.tuple [i8 s, .int .u32 (Int.ofNat g)]), Qst.pure [] 107 [.agg [.int .u8 a.kd, .int .u8 a.ak, .int .i64 a.pl, .int .i64 a.fd, .int .u64 (Int.ofNat a.wa), .int .u64 (Int.ofNat a.nw), .bool a.dn]] (.bool false), Qst.val (some (.bool (a.ak == Int.ofNat 6))) (.bool true), Qst.val (some (.bool (a.fd == Int.ofNat 0))) (.bool true), Qst.val (some (.bool (Int.ofNat a.wa != Int.ofNat a.nw))) (.bool false)]) := by kernel_rfl
theorem sn_C3 (a : Ac) (m c s g : Nat) : runX Tryz.prog none_ 80 23 (.call 23 [.agg (acC a), .nilSlice, .int .u32 (Int.ofNat m)] (startS Tryz.prog G2)) [.pure 106 1 1 [] (.bool false), .pure 109 1 5 G2 (i8 c), .pure 109 2 2 G (.tuple [i8 s, .int .u32 (Int.ofNat g)]), .pure 109 3 1 [] (.bool false), .val 111 1 3 (.bool true), .val 111 1 8 (.bool true), .val 111 1 15 (.bool true), .val 111 1 20 (.bool false)] = some ({ e := .ret, ts := [i8 0], s := ⟨⟨[(0, .cells true wf), (1, .cells true lf)], 2, none, []⟩, 10⟩ }, [], [Qst.pure [] 107 [.agg [.int .u8 a.kd, .int .u8 a.ak, .int .i64 a.pl, .int .i64 a.fd, .int .u64 (Int.ofNat a.wa), .int .u64 (Int.ofNat a.nw), .bool a.dn]] (.bool false), Qst.pure [(0, wf), (1, lf)] 108 [.int .u64 (Int.ofNat a.wa), .int .u64 (Int.ofNat a.nw), .int .u32 (Int.ofNat m)] (i8 c), Qst.pure [(0, wf)] 61 [.int .u64 (Int.ofNat a.wa)] (.tuple [i8 s, .int .u32 (Int.ofNat g)]), Qst.pure [] 107 [.agg [.int .u8 a.kd, .int .u8 a.ak, .int .i64 a.pl, .int .i64 a.fd, .int .u64 (Int.ofNat a.wa), .int .u64 (Int.ofNat a.nw), .bool a.dn]] (.bool false), Qst.val (some (.bool (a.ak == Int.ofNat 6))) (.bool true), Qst.val (some (.bool (a.fd == Int.ofNat 0))) (.bool true), Qst.val (some (.bool (Int.ofNat a.wa != Int.ofNat a.nw))) (.bool true), Qst.val (some (.bool (Int.ofNat a.nw == Int.ofNat 0))) (.bool false)]) := by kernel_rfl
theorem step_nil (a : Ac) (m : Nat) (hw : a.wa < 18446744073709551616) (hv : a.nw < 18446744073709551616) (hm : m < 4294967296) (hC : ¬ (a.ak = 6 ∧ a.fd = 0 ∧ a.wa ≠ a.nw ∧ a.nw = 0)) (s : AS) (hS : hasG s G2 = true) :
    Sound Tryz.prog (.call 23 [.agg (acC a), .nilSlice, .int .u32 (Int.ofNat m)] s) ⟨.ret, [.int .u8 (Int.ofNat (stF a m false false))], s⟩ := by
  have hq := hdr_call a
  have oq := of_gen a.wa a.nw m hw hv hm
  have aq := phead a.wa hw
  unfold stF
  revert oq
  generalize ofF a.wa a.nw m = c
  intro oq
  have no6 : a.ak = 9 → (Qst.val (some (AV.bool (a.ak == Int.ofNat 6))) (AV.bool false)).ok Tryz.prog := by
    intro h; rw [h]; simp [Qst.ok]
  cases hh : hdrB a with
  | true =>
    rw [hh] at hq
    have hk : a.ak = 9 := by
      unfold hdrB at hh
      simp only [Bool.and_eq_true, beq_iff_eq] at hh
      exact hh.1
    rw [if_pos rfl]
    by_cases c0 : c = 0
    · subst c0
      exact Sound.pure (G := G2) (runX_sound mixed none_sound (sn_A a m 0 0 0) ⟨fun s _ => hq s, oq, by simp [Qst.ok], trivial⟩) (by kernel_rfl) rfl rfl hS
    · rw [if_neg c0, if_neg (by simp)]
      have q0 : (Qst.val (some (AV.bool (Int.ofNat c == Int.ofNat 0))) (AV.bool false)).ok Tryz.prog := by simp [Qst.ok]; omega
      by_cases c3 : c = 3
      · exact Sound.pure (G := G2) (runX_sound mixed none_sound (sn_B0f a m c (hs a.wa) (hg a.wa)) ⟨fun s _ => hq s, oq, q0, oq, aq, fun s _ => hq s, by simp [Qst.ok, c3], no6 hk, trivial⟩) (by kernel_rfl) rfl rfl hS
      have q3 : (Qst.val (some (AV.bool (Int.ofNat c == Int.ofNat 3))) (AV.bool false)).ok Tryz.prog := by simp [Qst.ok]; omega
      by_cases c4 : c = 4
      · exact Sound.pure (G := G2) (runX_sound mixed none_sound (sn_B1f a m c (hs a.wa) (hg a.wa)) ⟨fun s _ => hq s, oq, q0, oq, aq, fun s _ => hq s, q3, by simp [Qst.ok, c4], no6 hk, trivial⟩) (by kernel_rfl) rfl rfl hS
      have q4 : (Qst.val (some (AV.bool (Int.ofNat c == Int.ofNat 4))) (AV.bool false)).ok Tryz.prog := by simp [Qst.ok]; omega
      by_cases c5 : c = 5
      · exact Sound.pure (G := G2) (runX_sound mixed none_sound (sn_B2f a m c (hs a.wa) (hg a.wa)) ⟨fun s _ => hq s, oq, q0, oq, aq, fun s _ => hq s, q3, q4, by simp [Qst.ok, c5], no6 hk, trivial⟩) (by kernel_rfl) rfl rfl hS
      have q5 : (Qst.val (some (AV.bool (Int.ofNat c == Int.ofNat 5))) (AV.bool false)).ok Tryz.prog := by simp [Qst.ok]; omega
      exact Sound.pure (G := G2) (runX_sound mixed none_sound (sn_B3 a m c (hs a.wa) (hg a.wa)) ⟨fun s _ => hq s, oq, q0, oq, aq, fun s _ => hq s, q3, q4, q5, no6 hk, trivial⟩) (by kernel_rfl) rfl rfl hS
  | false =>
    rw [hh] at hq
    rw [if_neg (by simp), if_neg (by simp)]
    by_cases k6 : a.ak = 6
    case neg =>
      exact Sound.pure (G := G2) (runX_sound mixed none_sound (sn_C0 a m c (hs a.wa) (hg a.wa)) ⟨fun s _ => hq s, oq, aq, fun s _ => hq s, by simp [Qst.ok]; omega, trivial⟩) (by kernel_rfl) rfl rfl hS
    have q6 : (Qst.val (some (AV.bool (a.ak == Int.ofNat 6))) (AV.bool true)).ok Tryz.prog := by rw [k6]; simp [Qst.ok]
    by_cases f0 : a.fd = 0
    case neg =>
      exact Sound.pure (G := G2) (runX_sound mixed none_sound (sn_C1 a m c (hs a.wa) (hg a.wa)) ⟨fun s _ => hq s, oq, aq, fun s _ => hq s, q6, by simp [Qst.ok]; omega, trivial⟩) (by kernel_rfl) rfl rfl hS
    have qf : (Qst.val (some (AV.bool (a.fd == Int.ofNat 0))) (AV.bool true)).ok Tryz.prog := by rw [f0]; simp [Qst.ok]
    by_cases ne : a.wa = a.nw
    · exact Sound.pure (G := G2) (runX_sound mixed none_sound (sn_C2 a m c (hs a.wa) (hg a.wa)) ⟨fun s _ => hq s, oq, aq, fun s _ => hq s, q6, qf, by simp [Qst.ok, ne], trivial⟩) (by kernel_rfl) rfl rfl hS
    have qn : (Qst.val (some (AV.bool (Int.ofNat a.wa != Int.ofNat a.nw))) (AV.bool true)).ok Tryz.prog := by simp [Qst.ok]; omega
    by_cases n0 : a.nw = 0
    case neg =>
      exact Sound.pure (G := G2) (runX_sound mixed none_sound (sn_C3 a m c (hs a.wa) (hg a.wa)) ⟨fun s _ => hq s, oq, aq, fun s _ => hq s, q6, qf, qn, by simp [Qst.ok]; omega, trivial⟩) (by kernel_rfl) rfl rfl hS
    exact absurd ⟨k6, f0, ne, n0⟩ hC
theorem uGs : Tryz.prog.underlying 76 = some (.slice 75) := by kernel_rfl
theorem zGh : sizeA Tryz.prog 75 = some 5 := by kernel_rfl
theorem aGh : isAggA Tryz.prog 75 = some true := by kernel_rfl
/-- A row of one ghost. -/
theorem row_one (g : Gh) : Row (.slice 2 0 1 1) 1 [g] (fun _ => g) where
  len s := by simp only [lenA, uGs]; rfl
  at_ k hk := by
    have hk0 : k = 0 := by omega
    subst hk0
    refine ⟨0 + 0 * 5, idx_slice uGs zGh hk, fun s ro hs => ?_⟩
    have := ld_row (P := Tryz.prog) (f := ghC) (n := 5) (t := 75) (k := 0) (fun _ => rfl) aGh zGh hs (show [g][0]? = some g from rfl)
    exact this
  small := by omega
theorem step_one (a : Ac) (m : Nat) (g : Gh) (hsl : g.sl < 9223372036854775808) (hw : a.wa < 18446744073709551616) (hv : a.nw < 18446744073709551616) (hm : m < 4294967296) {s : AS} {xo : Nat} (h0 : ∃ ro, s.get 0 = some (.cells ro wf)) (h1 : ∃ ro, s.get 1 = some (.cells ro lf)) (ho : ∃ ro, s.get xo = some (.cells ro (ghC g))) :
    Sound Tryz.prog (.call 23 [.agg (acC a), .slice xo 0 1 1, .int .u32 (Int.ofNat m)] s) ⟨.ret, [.int .u8 (Int.ofNat (stF a m (holdP a.pl (hg a.wa) g) (decide (0 ≤ a.pl ∧ a.pl < 32) && segP a.pl g)))], s⟩ := by
  obtain ⟨e1, s1, h⟩ := step_call (.slice 2 0 1 1) 1 [g] (fun _ => g) (row_one g) rfl (fun k hk => hsl) a m hw hv hm
  have e : ∀ P : Bool, anyK (fun _ => P) 1 = P := fun P => by cases P <;> rfl
  rw [e, e] at h
  obtain ⟨r0, h0⟩ := h0
  obtain ⟨r1, h1⟩ := h1
  obtain ⟨ro, ho⟩ := ho
  exact Sound.frame h (fun x => if x = 2 then xo else x) s (fun g hg => by
      rw [glN] at hg
      exact ⟨show g < 3 by omega, if_neg (by omega)⟩) (fun k hk => by
      have : k = 2 ∨ k = 0 ∨ k = 1 := by simpa [SL2] using hk
      show k < 3
      omega) (fun b o hb => by
      simp only [SL2, AS.get, getB] at hb
      split at hb
      · rename_i hb2
        have := Nat.eq_of_beq_eq_true hb2
        subst this
        simp only [Option.some.injEq] at hb
        subst hb
        refine ⟨_, ro, rfl, gh_names [g], ?_⟩
        show s.get xo = _
        rw [ho]
        show _ = some (AObj.cells ro (rens _ (rowsOf ghC [g])))
        rw [rens_no (gh_names [g])]
        rfl
      · split at hb
        · rename_i hb2
          have := Nat.eq_of_beq_eq_true hb2
          subst this
          simp only [Option.some.injEq] at hb
          subst hb
          exact ⟨_, r0, rfl, by kernel_rfl, h0⟩
        · split at hb
          · rename_i hb2
            have := Nat.eq_of_beq_eq_true hb2
            subst this
            simp only [Option.some.injEq] at hb
            subst hb
            exact ⟨_, r1, rfl, by kernel_rfl, h1⟩
          · cases hb) rfl rfl .ret
end Go.Proofs.YtimnagafechmbaaGreatDoor.ghostsArena
