/- The turns of the loop of the law. Conditions: those that each theorem names, and no others. -/
import Derived.Test.YtimnagafechmbaaGreatDoorArena15
import Derived.Test.YtimnagafechmbaaGreatDoorArena14
import Derived.Test.YtimnagafechmbaaGreatDoorMini3
namespace Go.Proofs.YtimnagafechmbaaGreatDoor.ghostsArena
open Go Go.Mini
/-! ### a turn of the law's loop, wherever its heap lies -/
def HL (M : PM) (oL oh oe o9 : AObj) : List (Nat × AObj) := [(3, .cells false (M.C (.map 4))), (4, mapO M.ms), (5, .cells false (gcl 6)), (6, oL), (7, oh), (8, oe), (9, o9)]
def FL (F2 : List AV) : List (Nat × List AV) := [(0, wf), (1, lf), (2, F2)]
def N7 : List Nat := [3, 4, 5, 6, 7, 8, 9]
def Cl (j : Nat → AV) : Prop := ∀ i, (j i).names (fun _ => false) = true
theorem cl_nm {x : AV} (h : x.names (fun _ => false) = true) (p : Nat → Bool) : x.names p = true := names_sub (fun _ h => by cases h) h
theorem cl_ren {x : AV} (h : x.names (fun _ => false) = true) (π : Nat → Nat) : x.ren π = x := by rw [ren_congr (p := fun _ => false) (π' := fun b => b) (fun _ h => by cases h) h, ren_id]
/-- What is said of the law's bytes. -/
structure RwB (l : AV) (F : List AV) (bs : List Nat) : Prop where
  nm : l.names (fun b => Nat.beq b 2) = true
  na : junkA = junkOf l ∧ junkable l = true
  len : ∀ s, lenA Tryz.prog s 22 l = some (.int .i64 (Int.ofNat bs.length))
  idx : ∀ i, i < bs.length → indexAddrA Tryz.prog 22 l (.int .i64 (Int.ofNat i)) = some (.ptr 2 i)
  row : ∃ r : List Nat, F = (bs ++ r).map fun n => AV.int .u8 (Int.ofNat n)
  lt : ∀ x ∈ bs, x < 256
theorem by_nm (p : Nat → Bool) : ∀ l : List Nat, namess p (l.map fun n => AV.int .u8 (Int.ofNat n)) = true
  | [] => rfl
  | _ :: t => by_nm p t
theorem RwB.fz {l : AV} {F : List AV} {bs : List Nat} (h : RwB l F bs) : namess (fun _ => false) F = true := by obtain ⟨r, e⟩ := h.row; rw [e]; exact by_nm _ _
theorem RwB.lnm {l : AV} {F : List AV} {bs : List Nat} (h : RwB l F bs) {p : Nat → Bool} (h2 : p 2 = true) : l.names p = true := names_sub (fun b hb => by rw [Nat.eq_of_beq_eq_true hb]; exact h2) h.nm
theorem RwB.lren {l : AV} {F : List AV} {bs : List Nat} (h : RwB l F bs) {π : Nat → Nat} (h2 : π 2 = 2) : l.ren π = l := by
  rw [ren_congr (p := fun b => Nat.beq b 2) (π' := fun b => b) (fun b hb => by rw [Nat.eq_of_beq_eq_true hb]; exact h2) h.nm, ren_id]
theorem RwB.ld {l : AV} {F : List AV} {bs : List Nat} (h : RwB l F bs) {i : Nat} (hi : i < bs.length) {s : AS} {ro : Bool} (hs : s.get 2 = some (.cells ro F)) : loadA Tryz.prog s 5 (.ptr 2 i) = some (.int .u8 (Int.ofNat bs[i])) := by
  obtain ⟨r, e⟩ := h.row
  refine ld_cell (by kernel_rfl) hs ?_
  rw [e, List.getElem?_map, List.getElem?_append_left hi, List.getElem?_eq_getElem hi]
  rfl
def kap3 (k7 k8 k9 b : Nat) : Nat := if b = 7 then k7 else if b = 8 then k8 else if b = 9 then k9 else b
theorem kap3_lo {k7 k8 k9 b : Nat} (h : b ∉ [7, 8, 9]) : kap3 k7 k8 k9 b = b := by
  simp only [List.mem_cons, List.not_mem_nil, or_false, not_or] at h
  unfold kap3
  rw [if_neg h.1, if_neg h.2.1, if_neg h.2.2]
theorem kap3_cases (k7 k8 k9 b : Nat) : (kap3 k7 k8 k9 b = b ∧ b ≠ 7 ∧ b ≠ 8 ∧ b ≠ 9) ∨ (b = 7 ∧ kap3 k7 k8 k9 b = k7) ∨ (b = 8 ∧ kap3 k7 k8 k9 b = k8) ∨ (b = 9 ∧ kap3 k7 k8 k9 b = k9) := by
  by_cases e : b ∉ [7, 8, 9]
  · have := kap3_lo (k7 := k7) (k8 := k8) (k9 := k9) e
    simp only [List.mem_cons, List.not_mem_nil, or_false, not_or] at e
    exact .inl ⟨this, e.1, e.2.1, e.2.2⟩
  · simp only [List.mem_cons, List.not_mem_nil, or_false, Classical.not_not] at e
    rcases e with rfl | rfl | rfl
    · exact .inr (.inl ⟨rfl, rfl⟩)
    · exact .inr (.inr (.inl ⟨rfl, rfl⟩))
    · exact .inr (.inr (.inr ⟨rfl, rfl⟩))
theorem kap3_in {k7 k8 k9 : Nat} {new : List Nat} (q7 : k7 = 7 ∨ k7 ∈ new) (q8 : k8 = 8 ∨ k8 ∈ new) (q9 : k9 = 9 ∨ k9 ∈ new) (b : Nat) : kap3 k7 k8 k9 b = b ∨ kap3 k7 k8 k9 b ∈ new := by
  rcases kap3_cases k7 k8 k9 b with u | ⟨rfl, u⟩ | ⟨rfl, u⟩ | ⟨rfl, u⟩
  · exact .inl u.1
  · rw [u]; exact q7
  · rw [u]; exact q8
  · rw [u]; exact q9
theorem kap3_inj {k7 k8 k9 : Nat} (q7 : k7 = 7 ∨ 10 ≤ k7) (q8 : k8 = 8 ∨ 10 ≤ k8) (q9 : k9 = 9 ∨ 10 ≤ k9) (nd : [k7, k8, k9].Nodup) {b c : Nat} (hb : b < 10) (hc : c < 10) (h : kap3 k7 k8 k9 b = kap3 k7 k8 k9 c) : b = c := by
  simp only [List.nodup_cons, List.mem_cons, List.not_mem_nil, or_false, not_or, not_false_eq_true, List.nodup_nil, and_true] at nd
  obtain ⟨⟨d1, d2⟩, d3⟩ := nd
  rcases kap3_cases k7 k8 k9 b with ⟨u, u1, u2, u3⟩ | ⟨rfl, u⟩ | ⟨rfl, u⟩ | ⟨rfl, u⟩ <;> rcases kap3_cases k7 k8 k9 c with ⟨v, v1, v2, v3⟩ | ⟨rfl, v⟩ | ⟨rfl, v⟩ | ⟨rfl, v⟩ <;> first | rfl | (rw [u, v] at h; omega)
theorem N7_lt {b : Nat} (h : b ∈ N7) : b < 10 := by
  simp only [N7, List.mem_cons, List.not_mem_nil, or_false] at h
  omega
section
variable {l : List (Int × Nat)} {oL oh oe : AObj}
theorem Lst.fL {bh be : Nat} (h : Lst l bh be oL oh oe) {p : Nat → Bool} (h7 : p bh = true) (h8 : p be = true) : oL.rw = true ∧ oL.names p = true := by
  rcases h with ⟨_, rfl, _, _⟩ | ⟨R, _, rfl, _, _⟩
  · exact ⟨rfl, rfl⟩
  · exact ⟨rfl, by show (p be && (p bh && true)) = true; rw [h7, h8]; rfl⟩
theorem Lst.fh {bh be : Nat} (h : Lst l bh be oL oh oe) : oh.rw = true ∧ ∀ p, oh.names p = true := by
  rcases h with ⟨_, _, rfl, _⟩ | ⟨R, _, _, rfl, _⟩
  · exact ⟨rfl, fun _ => rfl⟩
  · exact ⟨rfl, fun p => hadO_names p l⟩
theorem Lst.fe {bh be : Nat} (h : Lst l bh be oL oh oe) : oe.rw = true ∧ ∀ p, oe.names p = true := by
  rcases h with ⟨_, _, _, rfl⟩ | ⟨R, hR, _, _, rfl⟩
  · exact ⟨rfl, fun _ => rfl⟩
  · exact ⟨rfl, fun p => namess_sub (fun _ h => by cases h) hR.nm⟩
theorem Lst.rh {bh be : Nat} (h : Lst l bh be oL oh oe) (π : Nat → Nat) : oh.ren π = oh := by
  rcases h with ⟨_, _, rfl, _⟩ | ⟨R, _, _, rfl, _⟩
  · rfl
  · exact hadO_ren π l
theorem Lst.re {bh be : Nat} (h : Lst l bh be oL oh oe) (π : Nat → Nat) : oe.ren π = oe := by
  rcases h with ⟨_, _, _, rfl⟩ | ⟨R, hR, _, _, rfl⟩
  · rfl
  · show AObj.cells false (rens π R) = _
    rw [rens_no hR.nm]
end
def InvL (M : PM) (l held : List (Int × Nat)) (xh : AV) (F2 : List AV) (s : AS) (π : Nat → Nat) : Prop :=
  ∃ oL oh oe o9, Lst l 7 8 oL oh oe ∧ HV held 9 xh o9 ∧ At Tryz.prog (HL M oL oh oe o9) (FL F2) s π
theorem kanL {M : PM} {l held : List (Int × Nat)} {xh : AV} {oL oh oe o9 : AObj} (hL : Lst l 7 8 oL oh oe) (hv : HV held 9 xh o9) {F2 : List AV} (h2 : namess (fun _ => false) F2 = true) : Kan Tryz.prog (HL M oL oh oe o9) (FL F2) 10 where
  glob := by rw [glN]; decide
  ok := ⟨⟨show 3 < 10 by decide, rfl, rfl, rfl⟩, ⟨show 4 < 10 by decide, rfl, mapO_names _ _, rfl⟩, ⟨show 5 < 10 by decide, rfl, rfl, rfl⟩, ⟨show 6 < 10 by decide, (hL.fL (p := fun c => Nat.blt c 10) rfl rfl).1, (hL.fL (p := fun c => Nat.blt c 10) rfl rfl).2, rfl⟩,
    ⟨show 7 < 10 by decide, hL.fh.1, hL.fh.2 _, rfl⟩, ⟨show 8 < 10 by decide, hL.fe.1, hL.fe.2 _, rfl⟩, ⟨show 9 < 10 by decide, hv.obj.1, hv.obj.2 _, rfl⟩, trivial⟩
  nodup := show [3, 4, 5, 6, 7, 8, 9].Nodup by decide
  fz := by
    intro x hx
    simp only [FL, List.mem_cons, List.not_mem_nil, or_false] at hx
    rcases hx with rfl | rfl | rfl
    · exact ⟨show 0 < 10 by decide, show 0 ∉ [3, 4, 5, 6, 7, 8, 9] by decide, rfl⟩
    · exact ⟨show 1 < 10 by decide, show 1 ∉ [3, 4, 5, 6, 7, 8, 9] by decide, rfl⟩
    · exact ⟨show 2 < 10 by decide, show 2 ∉ [3, 4, 5, 6, 7, 8, 9] by decide, h2⟩
section
variable {l0 : AV} {gens mo i : Nat} {xh : AV} {j : Nat → AV}
theorem TL_names (h0 : l0.names (fun b => Nat.beq b 2) = true) (hx : xh.names (fun b => Nat.blt b 10) = true) (hj : Cl j) : namess (fun b => Nat.blt b 10) (TL l0 gens mo xh i j) = true := by
  have e0 : l0.names (fun b => Nat.blt b 10) = true := names_sub (fun b hb => by rw [Nat.eq_of_beq_eq_true hb]; rfl) h0
  unfold TL
  simp only [namess, e0, hx, cl_nm (hj _), Bool.true_and, Bool.and_true]
  rfl
theorem TL_ren (h0 : l0.names (fun b => Nat.beq b 2) = true) (hj : Cl j) {κ : Nat → Nat} (k2 : κ 2 = 2) (k3 : κ 3 = 3) (k5 : κ 5 = 5) : rens κ (TL l0 gens mo xh i j) = TL l0 gens mo (xh.ren κ) i j := by
  have e0 : l0.ren κ = l0 := by rw [ren_congr (p := fun b => Nat.beq b 2) (π' := fun b => b) (fun b hb => by rw [Nat.eq_of_beq_eq_true hb]; exact k2) h0, ren_id]
  have ej : junkA.ren κ = junkA := rfl
  unfold TL
  simp only [rens, e0, cl_ren (hj _), AV.ren, k3, k5, ej]
end
section
variable {M M' : PM} {l l' held held' : List (Int × Nat)} {xh xh' : AV} {oL oh oe o9 oL' oh' oe' o9' : AObj} {F2 : List AV} {s s1 : AS} {π : Nat → Nat} {l0 : AV} {gens mo i i' : Nat} {j j' : Nat → AV} {c : Code} {e : AExit} {ts1 : List AV}
theorem stepL (hL : Lst l 7 8 oL oh oe) (hv : HV held 9 xh o9) (h2 : namess (fun _ => false) F2 = true) (A : At Tryz.prog (HL M oL oh oe o9) (FL F2) s π)
    (h : Sound Tryz.prog (.code c (TL l0 gens mo xh i j) (canF (HL M oL oh oe o9) (FL F2) 10 10)) ⟨e, ts1, s1⟩) (h0 : l0.names (fun b => Nat.beq b 2) = true) (hj : Cl j) (hj' : Cl j')
    (k7 k8 k9 : Nat) (new : List Nat) (hn : new.Nodup) (q7 : k7 = 7 ∨ k7 ∈ new) (q8 : k8 = 8 ∨ k8 ∈ new) (q9 : k9 = 9 ∨ k9 ∈ new) (nd : [k7, k8, k9].Nodup)
    (hnew : ∀ b ∈ new, 10 ≤ b ∧ (objAt s1 b).rw = true ∧ (objAt s1 b).names (pN 10 new) = true) (hold : ∀ b ∈ [7, 8, 9], ((objAt s1 b).rw = true ∨ objAt s1 b = .dead) ∧ (objAt s1 b).names (pN 10 new) = true)
    (hL' : Lst l' 7 8 oL' oh' oe') (hv' : HV held' 9 xh' o9') (hts : seesT (fun b => b) (fun _ => true) (TL l0 gens mo (xh'.ren (kap3 k7 k8 k9)) i' j') ts1)
    (g3 : s1.get 3 = some (.cells false (M'.C (.map 4)))) (g4 : s1.get 4 = some (mapO M'.ms)) (g5 : s1.get 5 = some (.cells false (gcl 6))) (g6 : s1.get 6 = some (oL'.ren (kap3 k7 k8 k9))) (g7 : s1.get k7 = some oh') (g8 : s1.get k8 = some oe') (g9 : s1.get k9 = some o9') :
    ∃ s' π', Sound Tryz.prog (.code c (rens π (TL l0 gens mo xh i j)) s) ⟨e, rens π' (TL l0 gens mo xh' i' j'), s'⟩ ∧ InvL M' l' held' xh' F2 s' π' := by
  have K := kanL (M := M) hL hv h2
  have big : ∀ {k a : Nat}, k = a ∨ k ∈ new → k = a ∨ 10 ≤ k := fun h => h.imp id fun h => (hnew _ h).1
  have kin := kap3_in (k7 := k7) (k8 := k8) (k9 := k9) q7 q8 q9
  have kN : ∀ b, Nat.blt b 10 = true → pN 10 new (kap3 k7 k8 k9 b) = true := fun b hb => by
    unfold pN
    rcases kin b with h | h
    · rw [h, hb]; rfl
    · simp [h]
  have ob : ∀ {b : Nat} {o : AObj}, s1.get b = some o → objAt s1 b = o := fun h => by simp [objAt, h]
  have fL' := hL'.fL (p := fun c => Nat.blt c 10) rfl rfl
  have rL' : (oL'.ren (kap3 k7 k8 k9)).rw = true := by
    rcases hL' with ⟨_, rfl, _, _⟩ | ⟨R, _, rfl, _, _⟩ <;> rfl
  have hold' : ∀ b ∈ N7, ((objAt s1 b).rw = true ∨ objAt s1 b = .dead) ∧ (objAt s1 b).names (pN 10 new) = true := by
    intro b hb
    simp only [N7, List.mem_cons, List.not_mem_nil, or_false] at hb
    rcases hb with rfl | rfl | rfl | rfl | rfl | rfl | rfl
    · rw [ob g3]; exact ⟨.inl rfl, rfl⟩
    · rw [ob g4]; exact ⟨.inl rfl, mapO_names _ _⟩
    · rw [ob g5]; exact ⟨.inl rfl, rfl⟩
    · rw [ob g6]; exact ⟨.inl rL', onames_ren kN _ fL'.2⟩
    · exact hold 7 (by simp)
    · exact hold 8 (by simp)
    · exact hold 9 (by simp)
  have inN : ∀ b ∈ N7, kap3 k7 k8 k9 b ∈ N7 ∨ kap3 k7 k8 k9 b ∈ new := fun b hb => (kin b).imp (fun h => by rw [h]; exact hb) id
  have hx' : xh'.names (fun b => Nat.blt b 10) = true := hv'.nm rfl
  obtain ⟨s', π', hs, ha⟩ := At.step (n0 := 10) (nx0 := 10) (new := new) (κ := kap3 k7 k8 k9) (T' := TL l0 gens mo xh' i' j') (bs' := HL M' oL' oh' oe' o9')
    A K hn hnew (fun g hg => kap3_lo (by rw [glN] at hg; simp; omega)) (fun x hx => by
      simp only [FL, List.mem_cons, List.not_mem_nil, or_false] at hx
      rcases hx with rfl | rfl | rfl <;> rfl)
    ⟨⟨inN 3 (by simp [N7]), g3⟩, ⟨inN 4 (by simp [N7]), by rw [mapO_ren]; exact g4⟩, ⟨inN 5 (by simp [N7]), g5⟩, ⟨inN 6 (by simp [N7]), g6⟩, ⟨inN 7 (by simp [N7]), by rw [hL'.rh]; exact g7⟩, ⟨inN 8 (by simp [N7]), by rw [hL'.re]; exact g8⟩, ⟨inN 9 (by simp [N7]), by rw [hv'.oren]; exact g9⟩, trivial⟩
    (fun b hb c hc hh => kap3_inj (big q7) (big q8) (big q9) nd (N7_lt hb) (N7_lt hc) hh)
    h (TL_names h0 (hv.nm rfl) hj) hold' (fun b hb => (kin b).imp (fun h => by rw [h]; exact hb) id) (TL_names h0 hx' hj') (by rw [TL_ren h0 hj' rfl rfl rfl]; exact hts)
  exact ⟨s', π', hs, oL', oh', oe', o9', hL', hv', ha⟩
end
/-! ### turns of the law's loop: its end, an Alloc that gets nothing, an Alloc -/
theorem as5_e {s : AS} {b bm xa xd : Nat} {M : PM} {w0 : Nat} {z z2 : Int} {e : Nat} (hx : getW M.ms aEra = e) (h : AIn s b bm xa xd M (Acl (popI xd) 3 0 z 0 false) (Pcl 0 w0 z2 z true)) :
    Sound Tryz.prog (.call 22 [.ptr xa 0, .ptr b 0] s) ⟨.ret, [.bool false], (((s.set b (.cells false ((M.load aEra).C (.map bm)))).set bm (mapO (M.load aEra).ms)).set xa (.cells false (Acl (popI xd) 4 e z 0 false))).set xd (.cells false (Pcl 0 w0 z2 z true))⟩ := by
  have := as5_at h
  rw [hx] at this
  exact this
theorem as2_e {s : AS} {b bm xa xd : Nat} {M : PM} {w0 : Nat} (hw : w0 < 18446744073709551616) {z1 : Int} (hx : slI w0 = z1) (h : AIn s b bm xa xd M (Acl (popI xd) 1 0 (Int.negSucc 0) 0 false) (Pcl 2 w0 (Int.ofNat 0) (Int.ofNat 0) false)) :
    Sound Tryz.prog (.call 22 [.ptr xa 0, .ptr b 0] s) ⟨.ret, [.bool false], (((s.set b (.cells false ((M.load (aL z1 2)).C (.map bm)))).set bm (mapO (M.load (aL z1 2)).ms)).set xa (.cells false (Acl (popI xd) 1 0 (Int.negSucc 0) 0 false))).set xd (.cells false (Pcl 3 w0 (slI (getW M.ms (aL z1 2))) (Int.ofNat 0) false))⟩ := by
  have := as2_at hw h
  rw [hx] at this
  exact this
theorem as3_e {s : AS} {b bm xa xd : Nat} {M : PM} {w0 : Nat} {z2 : Int} (hw : w0 < 18446744073709551616) (hz2 : -1 ≤ z2 ∧ z2 < 256) (hc : getW M.ms aF = w0) {z1 : Int} (hx : slI w0 = z1) (h : AIn s b bm xa xd M (Acl (popI xd) 1 0 (Int.negSucc 0) 0 false) (Pcl 3 w0 z2 (Int.ofNat 0) false)) :
    Sound Tryz.prog (.call 22 [.ptr xa 0, .ptr b 0] s) ⟨.ret, [.bool false], (((s.set b (.cells false ((M.cas aF w0 (hdN z2 (tgN w0 + 1))).C (.map bm)))).set bm (mapO (M.cas aF w0 (hdN z2 (tgN w0 + 1))).ms)).set xa (.cells false (Acl (popI xd) 2 0 z1 0 false))).set xd (.cells false (Pcl 0 w0 z2 z1 true))⟩ := by
  have := as3_at hw hz2 hc h
  rw [hx] at this
  exact this
theorem as7_e {s : AS} {b bm xa xd xk : Nat} {M : PM} {e : Nat} {z : Int} {g0 : Nat} (hx : hg (getW M.ms (aL z 0)) = g0) (h : AIn5 s b bm xa xd xk M (Acl (hdrI xd) 1 e z 0 false) (Hcl z (keepF xk) 0 false 0) ([.int .u8 (Int.ofNat 1)])) :
    Sound Tryz.prog (.call 22 [.ptr xa 0, .ptr b 0] s) ⟨.ret, [.bool false], ((((s.set b (.cells false ((M.load (aL z 0)).C (.map bm)))).set bm (mapO (M.load (aL z 0)).ms)).set xa (.cells false (Acl (hdrI xd) 1 e z 0 false))).set xd (.cells false (Hcl z (keepF xk) g0 true 0))).set xk (.cells false ([.int .u8 (Int.ofNat 1)]))⟩ := by
  have := as7_at h
  rw [hx] at this
  exact this

noncomputable def cLw : Code := loopAt Tryz.prog 4 0
def jS (j : Nat → AV) (k : Nat) (x : AV) : Nat → AV := fun m => if m = k then x else j m
theorem jS_cl {j : Nat → AV} (h : Cl j) {k : Nat} {x : AV} (hx : x.names (fun _ => false) = true) : Cl (jS j k x) := fun m => by
  unfold jS
  split
  · exact hx
  · exact h m
theorem kap_id : kap3 7 8 9 = fun b => b := by
  funext b
  rcases kap3_cases 7 8 9 b with u | ⟨rfl, u⟩ | ⟨rfl, u⟩ | ⟨rfl, u⟩
  · exact u.1
  · rfl
  · rfl
  · rfl
theorem HV.jk {l : List (Int × Nat)} {b : Nat} {x : AV} {o : AObj} (h : HV l b x o) : junkA = junkOf x ∧ junkable x = true := by
  rcases h with ⟨_, rfl, _⟩ | ⟨r, _, ⟨_, _, rfl⟩ | rfl⟩ <;> exact ⟨rfl, rfl⟩
theorem Lst.idL {l : List (Int × Nat)} {oL oh oe : AObj} (_ : Lst l 7 8 oL oh oe) : oL.ren (kap3 7 8 9) = oL := by rw [kap_id, oren_id]
/-- The state in which the ref is appended. -/
def sA (M : PM) (z : Int) (g : Nat) (oL oh oe o9 : AObj) (F2 : List AV) : AS := { h := { bs := [(16, AObj.cells false [AV.int IntKind.i64 z, AV.int IntKind.u32 (Int.ofNat g), AV.bool false]), (15, AObj.cells false [AV.int IntKind.i64 z, AV.int IntKind.u32 (Int.ofNat g), AV.bool false]), (13, (.cells false (Hcl z (keepF 12) g true 1))), (12, (.cells false [.int .u8 (Int.ofNat 1)])), (11, AObj.cells false [(hdrI 13), AV.int IntKind.i64 (Int.ofNat 0), AV.int IntKind.u64 (Int.ofNat (getW M.ms aEra)), AV.int IntKind.i64 z, AV.int IntKind.u32 (Int.ofNat g), AV.bool false, AV.bool true]), (10, (.cells false (Pcl 0 (getW M.ms aF) (slI (getW M.ms (aL z 2))) z true))), (3, (.cells false ((mA8 M z g).C (.map 4)))), (4, (mapO (mA8 M z g).ms)), (5, AObj.cells false [AV.bool false, AV.int IntKind.u8 (Int.ofNat 0), AV.int IntKind.u64 (Int.ofNat 0), AV.int IntKind.u64 (Int.ofNat 0), AV.int IntKind.u64 (Int.ofNat 0), AV.int IntKind.u64 (Int.ofNat 0), AV.bool true, AV.int IntKind.i64 (Int.ofNat 0), AV.ptr 6 0]), (6, oL), (7, oh), (8, oe), (9, o9), (0, AObj.cells true wf), (1, AObj.cells true lf), (2, AObj.cells true F2)], len := 16, esc := none, wr := [15, 12, 13, 11, 4, 3, 12, 13, 11, 4, 3, 10, 11, 4, 3, 10, 11, 4, 3, 10, 11, 4, 3, 10, 11, 4, 3, 10, 11, 4, 3, 10, 11, 4, 3] }, nx := 17 }
section
variable {M : PM} {l held : List (Int × Nat)} {xh : AV} {F2 : List AV} {s : AS} {π : Nat → Nat} {l0 : AV} {gens mo i : Nat} {j : Nat → AV} {bs : List Nat} (W : RwB l0 F2 bs) (hj : Cl j) (hI : InvL M l held xh F2 s π)
include W hj hI
theorem turn_end (hi : ¬ i < bs.length) : ∃ s' π', Sound Tryz.prog (.code cLw (rens π (TL l0 gens mo xh i j)) s) ⟨.exit 0, rens π' (TL l0 gens mo xh i j), s'⟩ ∧ InvL M l held xh F2 s' π' := by
  obtain ⟨oL, oh, oe, o9, hL, hv, A⟩ := hI
  have q1 : decide (Int.ofNat i < Int.ofNat bs.length) = false := decide_eq_false (by simp only [Int.ofNat_eq_natCast]; omega)
  have hx := runX_sound mixed none_sound (lw_end l0 xh gens mo i bs.length 0 0 0 j F2 (.cells false (M.C (.map 4))) (mapO M.ms) oL oh oe o9) ⟨W.len _, by rw [q1]; rfl, trivial⟩
  refine stepL hL hv W.fz A hx W.nm hj hj 7 8 9 [] List.nodup_nil (.inl rfl) (.inl rfl) (.inl rfl) (by decide) (fun b hb => by cases hb) (fun b hb => ?_) hL hv ?_ rfl rfl rfl (by rw [hL.idL]; rfl) rfl rfl rfl
  · simp only [List.mem_cons, List.not_mem_nil, or_false] at hb
    rcases hb with rfl | rfl | rfl
    · exact ⟨.inl hL.fh.1, hL.fh.2 _⟩
    · exact ⟨.inl hL.fe.1, hL.fe.2 _⟩
    · exact ⟨.inl hv.obj.1, hv.obj.2 _⟩
  · rw [kap_id, ren_id]
    unfold TL
    repeat (first | exact rfl | refine ⟨_, _, rfl, ?_, ?_⟩ | exact see_same _ | exact .inl W.na | exact .inl hv.jk | exact .inl ⟨rfl, rfl⟩)
theorem turn_no0 (hi : i < bs.length) (hsm : i < 1000) (hlt : Lt M) (hmo : mo < 4294967295) (hz : slI (getW M.ms aF) < 0) (hb : bs[i] % 3 = 0) : ∃ s' π' j', Cl j' ∧ Sound Tryz.prog (.code cLw (rens π (TL l0 gens mo xh i j)) s) ⟨.normal, rens π' (TL l0 gens mo xh (i + 1) j'), s'⟩ ∧ InvL (mA1 M) l held xh F2 s' π' := by
  obtain ⟨oL, oh, oe, o9, hL, hv, A⟩ := hI
  have q1 : decide (Int.ofNat i < Int.ofNat bs.length) = true := decide_eq_true (by simp only [Int.ofNat_eq_natCast]; omega)
  have q2 : (Int.ofNat (bs[i] % 3) == Int.ofNat 0) = true := by rw [hb]; rfl
  have hx := runX_sound mixed none_sound (lw_no0 l0 xh gens mo i bs.length (bs[i]'hi) i held.length j F2 (.cells false (M.C (.map 4))) (mapO M.ms) oL oh oe o9 (popI 10) (.cells false ((mA1 M).C (.map 4))) (mapO (mA1 M).ms) (.cells false (Pcl 0 (getW M.ms aF) (Int.ofNat 0) (Int.ofNat 0) false)) (LA (mA1 M).kd (mA1 M).a (mA1 M).was (mA1 M).is (mA1 M).dn)) ⟨W.len _, by rw [q1]; rfl, W.idx i hi, W.ld hi rfl, rfl, by rw [q2]; rfl, as1n_at (b := 3) (bm := 4) (xa := 11) (xd := 10) (M := M) hz ⟨rfl, rfl, rfl, rfl, ⟨_, rfl⟩, by decide, by decide, hlt⟩, last_at (b := 3) (bm := 4) (M := mA1 M) rfl rfl, fun s hs => nil0 (a := acM (mA1 M)) (m := mo) (fun y => fa1 false y) (hlt.wload _) hmo hs, by show some (AV.int .i64 (IntKind.i64.wrap (Int.ofNat (i + 1)))) = _; rw [i64_wrap (by simp only [Int.ofNat_eq_natCast]; omega) (by simp only [Int.ofNat_eq_natCast]; omega)], trivial⟩
  have hj' : Cl (jS (jS j 64 (.agg (LA (mA1 M).kd (mA1 M).a (mA1 M).was (mA1 M).is (mA1 M).dn))) 71 (.agg [.int .i64 (Int.negSucc 0), .int .u32 (Int.ofNat 0), .bool false])) := jS_cl (jS_cl hj rfl) rfl
  refine (stepL (M' := mA1 M) (i' := i + 1) hL hv W.fz A hx W.nm hj hj' 7 8 9 [] List.nodup_nil (.inl rfl) (.inl rfl) (.inl rfl) (by decide) (fun b hb => by cases hb) (fun b hb => ?_) hL hv ?_ rfl rfl rfl (by rw [hL.idL]; rfl) rfl rfl rfl).imp fun s' h => h.imp fun π' h => ⟨_, hj', h⟩
  · simp only [List.mem_cons, List.not_mem_nil, or_false] at hb
    rcases hb with rfl | rfl | rfl
    · exact ⟨.inl hL.fh.1, hL.fh.2 _⟩
    · exact ⟨.inl hL.fe.1, hL.fe.2 _⟩
    · exact ⟨.inl hv.obj.1, hv.obj.2 _⟩
  · rw [kap_id, ren_id]
    unfold TL
    repeat (first | exact rfl | refine ⟨_, _, rfl, ?_, ?_⟩ | exact see_same _ | exact .inl W.na | exact .inl hv.jk | exact .inl ⟨rfl, rfl⟩)
theorem turn_no1 (hi : i < bs.length) (hsm : i < 1000) (hlt : Lt M) (hmo : mo < 4294967295) (hz : slI (getW M.ms aF) < 0) (hb : bs[i] % 3 ≠ 0) (h0 : held = []) : ∃ s' π' j', Cl j' ∧ Sound Tryz.prog (.code cLw (rens π (TL l0 gens mo xh i j)) s) ⟨.normal, rens π' (TL l0 gens mo xh (i + 1) j'), s'⟩ ∧ InvL (mA1 M) l held xh F2 s' π' := by
  obtain ⟨oL, oh, oe, o9, hL, hv, A⟩ := hI
  have q1 : decide (Int.ofNat i < Int.ofNat bs.length) = true := decide_eq_true (by simp only [Int.ofNat_eq_natCast]; omega)
  have q2 : (Int.ofNat (bs[i] % 3) == Int.ofNat 0) = false := by simp; omega
  have qz : (Int.ofNat held.length == Int.ofNat 0) = true := by rw [h0]; rfl
  have hx := runX_sound mixed none_sound (lw_no1 l0 xh gens mo i bs.length (bs[i]'hi) i held.length j F2 (.cells false (M.C (.map 4))) (mapO M.ms) oL oh oe o9 (popI 10) (.cells false ((mA1 M).C (.map 4))) (mapO (mA1 M).ms) (.cells false (Pcl 0 (getW M.ms aF) (Int.ofNat 0) (Int.ofNat 0) false)) (LA (mA1 M).kd (mA1 M).a (mA1 M).was (mA1 M).is (mA1 M).dn)) ⟨W.len _, by rw [q1]; rfl, W.idx i hi, W.ld hi rfl, rfl, by rw [q2]; rfl, hv.len _, by rw [qz]; rfl, as1n_at (b := 3) (bm := 4) (xa := 11) (xd := 10) (M := M) hz ⟨rfl, rfl, rfl, rfl, ⟨_, rfl⟩, by decide, by decide, hlt⟩, last_at (b := 3) (bm := 4) (M := mA1 M) rfl rfl, fun s hs => nil0 (a := acM (mA1 M)) (m := mo) (fun y => fa1 false y) (hlt.wload _) hmo hs, by show some (AV.int .i64 (IntKind.i64.wrap (Int.ofNat (i + 1)))) = _; rw [i64_wrap (by simp only [Int.ofNat_eq_natCast]; omega) (by simp only [Int.ofNat_eq_natCast]; omega)], trivial⟩
  have hj' : Cl (jS (jS j 64 (.agg (LA (mA1 M).kd (mA1 M).a (mA1 M).was (mA1 M).is (mA1 M).dn))) 71 (.agg [.int .i64 (Int.negSucc 0), .int .u32 (Int.ofNat 0), .bool false])) := jS_cl (jS_cl hj rfl) rfl
  refine (stepL (M' := mA1 M) (i' := i + 1) hL hv W.fz A hx W.nm hj hj' 7 8 9 [] List.nodup_nil (.inl rfl) (.inl rfl) (.inl rfl) (by decide) (fun b hb => by cases hb) (fun b hb => ?_) hL hv ?_ rfl rfl rfl (by rw [hL.idL]; rfl) rfl rfl rfl).imp fun s' h => h.imp fun π' h => ⟨_, hj', h⟩
  · simp only [List.mem_cons, List.not_mem_nil, or_false] at hb
    rcases hb with rfl | rfl | rfl
    · exact ⟨.inl hL.fh.1, hL.fh.2 _⟩
    · exact ⟨.inl hL.fe.1, hL.fe.2 _⟩
    · exact ⟨.inl hv.obj.1, hv.obj.2 _⟩
  · rw [kap_id, ren_id]
    unfold TL
    repeat (first | exact rfl | refine ⟨_, _, rfl, ?_, ?_⟩ | exact see_same _ | exact .inl W.na | exact .inl hv.jk | exact .inl ⟨rfl, rfl⟩)
theorem turn_ok0 (hi : i < bs.length) (hsm : i < 1000) (hk : held.length < 1000000) {z : Int} {g : Nat} (H : NewIn M z g mo) (hb : bs[i] % 3 = 0) : ∃ s' π' j', Cl j' ∧ Sound Tryz.prog (.code cLw (rens π (TL l0 gens mo xh i j)) s) ⟨.normal, rens π' (TL l0 gens mo (.osl 9 0 (held.length + 1) 3) (i + 1) j'), s'⟩ ∧ InvL (mA8 M z g) l (held ++ [(z, g)]) (.osl 9 0 (held.length + 1) 3) F2 s' π' := by
  have hmo := H.hm
  have e7 : hg (getW (mA6 M z).ms (aL z 0)) = g := by
    rw [show getW (mA6 M z).ms (aL z 0) = mkw 0 g from A7_0 H, hg_mkw (by omega) (by have := H.hg; omega)]
  have hz := H.top
  obtain ⟨oL, oh, oe, o9, hL, hv, A⟩ := hI
  have q1 : decide (Int.ofNat i < Int.ofNat bs.length) = true := decide_eq_true (by simp only [Int.ofNat_eq_natCast]; omega)
  have q2 : (Int.ofNat (bs[i] % 3) == Int.ofNat 0) = true := by rw [hb]; rfl
  have hj' : Cl (jS (jS (jS j 64 (.agg (LA (mA8 M z g).kd (mA8 M z g).a (mA8 M z g).was (mA8 M z g).is (mA8 M z g).dn))) 71 (.agg (rk (z, g)))) 75 (.agg (rk (z, g)))) := jS_cl (jS_cl (jS_cl hj rfl) rfl) rfl
  have hv' : HV (held ++ [(z, g)]) 9 (.osl 9 0 (held.length + 1) 3) (.cells false (rowsOf rk (held ++ [(z, g)]))) := .inr ⟨[], by rw [List.append_nil], .inl ⟨by simp, rfl, by rw [List.length_append]; rfl⟩⟩
  rcases hv.more (s := sA M z g oL oh oe o9 F2) (y := (z, g)) (b2 := 16) (c2 := 1) rfl rfl hk with ⟨_, hne, ha⟩ | ha
  ·
    have hx := runX_sound mixed none_sound (lw_okd l0 xh gens mo i bs.length (bs[i]'hi) i held.length j F2 (.cells false (M.C (.map 4))) (mapO M.ms) oL oh oe o9 z g (getW M.ms aEra) (popI 10) (hdrI 13) (rowsOf rk (held ++ [(z, g)])) (.cells false ((mA1 M).C (.map 4))) (mapO (mA1 M).ms) (.cells false ((mA2 M z).C (.map 4))) (mapO (mA2 M z).ms) (.cells false ((mA3 M z).C (.map 4))) (mapO (mA3 M z).ms) (.cells false ((mA4 M z).C (.map 4))) (mapO (mA4 M z).ms) (.cells false ((mA5 M z).C (.map 4))) (mapO (mA5 M z).ms) (.cells false ((mA6 M z).C (.map 4))) (mapO (mA6 M z).ms) (.cells false ((mA7 M z).C (.map 4))) (mapO (mA7 M z).ms) (.cells false ((mA8 M z g).C (.map 4))) (mapO (mA8 M z g).ms) (.cells false (Pcl 2 (getW M.ms aF) (Int.ofNat 0) (Int.ofNat 0) false)) (.cells false (Pcl 3 (getW M.ms aF) (slI (getW M.ms (aL z 2))) (Int.ofNat 0) false)) (.cells false (Pcl 0 (getW M.ms aF) (slI (getW M.ms (aL z 2))) z true)) (.cells false (Pcl 0 (getW M.ms aF) (slI (getW M.ms (aL z 2))) z true)) (.cells false (Pcl 0 (getW M.ms aF) (slI (getW M.ms (aL z 2))) z true)) (.cells false (Pcl 0 (getW M.ms aF) (slI (getW M.ms (aL z 2))) z true)) (.cells false (Hcl z (keepF 12) g true 0)) (.cells false (Hcl z (keepF 12) g true 1)) (.cells false [.int .u8 (Int.ofNat 1)]) (.cells false (Hcl z (keepF 12) 0 false 0)) (.cells false [.int .u8 (Int.ofNat 1)]) (.cells false [.int .u8 (Int.ofNat 1)]) (LA (mA1 M).kd (mA1 M).a (mA1 M).was (mA1 M).is (mA1 M).dn) (LA (mA2 M z).kd (mA2 M z).a (mA2 M z).was (mA2 M z).is (mA2 M z).dn) (LA (mA3 M z).kd (mA3 M z).a (mA3 M z).was (mA3 M z).is (mA3 M z).dn) (LA (mA4 M z).kd (mA4 M z).a (mA4 M z).was (mA4 M z).is (mA4 M z).dn) (LA (mA5 M z).kd (mA5 M z).a (mA5 M z).was (mA5 M z).is (mA5 M z).dn) (LA (mA6 M z).kd (mA6 M z).a (mA6 M z).was (mA6 M z).is (mA6 M z).dn) (LA (mA7 M z).kd (mA7 M z).a (mA7 M z).was (mA7 M z).is (mA7 M z).dn) (LA (mA8 M z g).kd (mA8 M z g).a (mA8 M z g).was (mA8 M z g).is (mA8 M z g).dn)) ⟨W.len _, by rw [q1]; rfl, W.idx i hi, W.ld hi rfl, rfl, by rw [q2]; rfl, as1_at (b := 3) (bm := 4) (xa := 11) (xd := 10) (M := M) (by rw [H.top]; exact H.hz.1) ⟨rfl, rfl, rfl, rfl, ⟨_, rfl⟩, by decide, by decide, H.lt⟩,
          last_at (b := 3) (bm := 4) (M := (mA1 M)) rfl rfl,
          fun s hs => nil0 (a := acM (mA1 M)) (m := mo) (fun y => fa1 false y) (wa1 H) hmo hs,
          as2_e (b := 3) (bm := 4) (xa := 11) (xd := 10) (M := mA1 M) (w0 := (getW M.ms aF)) (H.lt _) H.top ⟨rfl, rfl, rfl, rfl, ⟨_, rfl⟩, by decide, by decide, (la1 H)⟩,
          last_at (b := 3) (bm := 4) (M := (mA2 M z)) rfl rfl,
          fun s hs => nil0 (a := acM (mA2 M z)) (m := mo) (fun y => fa2 false y) (wa2 H) hmo hs,
          as3_e (b := 3) (bm := 4) (xa := 11) (xd := 10) (M := mA2 M z) (w0 := (getW M.ms aF)) (z2 := (slI (getW M.ms (aL z 2)))) (H.lt _) (by have := slI_or (getW M.ms (aL z 2)); omega) rfl H.top ⟨rfl, rfl, rfl, rfl, ⟨_, rfl⟩, by decide, by decide, (la2 H)⟩,
          last_at (b := 3) (bm := 4) (M := (mA3 M z)) rfl rfl,
          fun s hs => nil0 (a := acM (mA3 M z)) (m := mo) (fun y => fa3 false y) (wa3 H) hmo hs,
          as4_at (b := 3) (bm := 4) (xa := 11) (xd := 10) (M := mA3 M z) (w0 := (getW M.ms aF)) (z := z) (z2 := (slI (getW M.ms (aL z 2)))) H.hz (by rw [A4_sg]; exact H.sg) ⟨rfl, rfl, rfl, rfl, ⟨_, rfl⟩, by decide, by decide, (la3 H)⟩,
          last_at (b := 3) (bm := 4) (M := (mA4 M z)) rfl rfl,
          fun s hs => nil0 (a := acM (mA4 M z)) (m := mo) (fun y => fa4 false y) (wa4 H) hmo hs,
          as5_e (b := 3) (bm := 4) (xa := 11) (xd := 10) (M := mA4 M z) (w0 := (getW M.ms aF)) (z := z) (z2 := (slI (getW M.ms (aL z 2)))) A5_era ⟨rfl, rfl, rfl, rfl, ⟨_, rfl⟩, by decide, by decide, (la4 H)⟩,
          last_at (b := 3) (bm := 4) (M := (mA5 M z)) rfl rfl,
          fun s hs => nil0 (a := acM (mA5 M z)) (m := mo) (fun y => fa5 false y) (wa5 H) hmo hs,
          as6_at (b := 3) (bm := 4) (xa := 11) (xd := 10) (M := mA5 M z) (w0 := (getW M.ms aF)) (e := (getW M.ms aEra)) (z := z) (z2 := (slI (getW M.ms (aL z 2)))) ⟨rfl, rfl, rfl, rfl, ⟨_, rfl⟩, by decide, by decide, (la5 H)⟩,
          last_at (b := 3) (bm := 4) (M := (mA6 M z)) rfl rfl,
          fun s hs => nil0 (a := acM (mA6 M z)) (m := mo) (fun y => fa6 false y) (wa6 H) hmo hs,
          as7_e (b := 3) (bm := 4) (xa := 11) (xd := 13) (xk := 12) (M := mA6 M z) (e := (getW M.ms aEra)) (z := z) e7 ⟨rfl, rfl, rfl, rfl, rfl, ⟨_, rfl⟩, by decide, by decide, (la6 H)⟩,
          last_at (b := 3) (bm := 4) (M := (mA7 M z)) rfl rfl,
          fun s hs => nil0 (a := acM (mA7 M z)) (m := mo) (fun y => fa7 false y) (wa7 H) hmo hs,
          as8_at (b := 3) (bm := 4) (xa := 11) (xd := 13) (xk := 12) (M := mA7 M z) (e := (getW M.ms aEra)) (g0 := g) (z := z) (by have := H.hg; have := H.hm; omega) ⟨rfl, rfl, rfl, rfl, rfl, ⟨_, rfl⟩, by decide, by decide, (la7 H)⟩,
          last_at (b := 3) (bm := 4) (M := (mA8 M z g)) rfl rfl,
          fun s hs => nil0 (a := acM (mA8 M z g)) (m := mo) (fun y => (fa8 H) false y) (wa8 H) hmo hs, ha, by show some (AV.int .i64 (IntKind.i64.wrap (Int.ofNat (i + 1)))) = _; rw [i64_wrap (by simp only [Int.ofNat_eq_natCast]; omega) (by simp only [Int.ofNat_eq_natCast]; omega)], trivial⟩
    refine (stepL (M' := mA8 M z g) (i' := i + 1) hL hv W.fz A hx W.nm hj hj' 7 8 17 [17] (by decide) (.inl rfl) (.inl rfl) (.inr (by decide)) (by decide) (fun b hb => by rw [List.mem_singleton.1 hb]; exact ⟨by decide, rfl, rk_nm _ _⟩) (fun b hb => ?_) hL hv' ?_ rfl rfl rfl (by rcases hL with ⟨_, rfl, _, _⟩ | ⟨R, _, rfl, _, _⟩ <;> rfl) rfl rfl rfl).imp fun s' h => h.imp fun π' h => ⟨_, hj', h⟩
    · simp only [List.mem_cons, List.not_mem_nil, or_false] at hb
      rcases hb with rfl | rfl | rfl
      · exact ⟨.inl hL.fh.1, hL.fh.2 _⟩
      · exact ⟨.inl hL.fe.1, hL.fe.2 _⟩
      · exact ⟨.inr rfl, rfl⟩
    · unfold TL
      repeat (first | exact rfl | refine ⟨_, _, rfl, ?_, ?_⟩ | exact see_same _ | exact .inl W.na | exact .inl hv.jk | exact .inl ⟨rfl, rfl⟩)
  ·
    have hx := runX_sound mixed none_sound (lw_okp l0 xh gens mo i bs.length (bs[i]'hi) i held.length j F2 (.cells false (M.C (.map 4))) (mapO M.ms) oL oh oe o9 z g (getW M.ms aEra) (popI 10) (hdrI 13) (rowsOf rk (held ++ [(z, g)])) (.cells false ((mA1 M).C (.map 4))) (mapO (mA1 M).ms) (.cells false ((mA2 M z).C (.map 4))) (mapO (mA2 M z).ms) (.cells false ((mA3 M z).C (.map 4))) (mapO (mA3 M z).ms) (.cells false ((mA4 M z).C (.map 4))) (mapO (mA4 M z).ms) (.cells false ((mA5 M z).C (.map 4))) (mapO (mA5 M z).ms) (.cells false ((mA6 M z).C (.map 4))) (mapO (mA6 M z).ms) (.cells false ((mA7 M z).C (.map 4))) (mapO (mA7 M z).ms) (.cells false ((mA8 M z g).C (.map 4))) (mapO (mA8 M z g).ms) (.cells false (Pcl 2 (getW M.ms aF) (Int.ofNat 0) (Int.ofNat 0) false)) (.cells false (Pcl 3 (getW M.ms aF) (slI (getW M.ms (aL z 2))) (Int.ofNat 0) false)) (.cells false (Pcl 0 (getW M.ms aF) (slI (getW M.ms (aL z 2))) z true)) (.cells false (Pcl 0 (getW M.ms aF) (slI (getW M.ms (aL z 2))) z true)) (.cells false (Pcl 0 (getW M.ms aF) (slI (getW M.ms (aL z 2))) z true)) (.cells false (Pcl 0 (getW M.ms aF) (slI (getW M.ms (aL z 2))) z true)) (.cells false (Hcl z (keepF 12) g true 0)) (.cells false (Hcl z (keepF 12) g true 1)) (.cells false [.int .u8 (Int.ofNat 1)]) (.cells false (Hcl z (keepF 12) 0 false 0)) (.cells false [.int .u8 (Int.ofNat 1)]) (.cells false [.int .u8 (Int.ofNat 1)]) (LA (mA1 M).kd (mA1 M).a (mA1 M).was (mA1 M).is (mA1 M).dn) (LA (mA2 M z).kd (mA2 M z).a (mA2 M z).was (mA2 M z).is (mA2 M z).dn) (LA (mA3 M z).kd (mA3 M z).a (mA3 M z).was (mA3 M z).is (mA3 M z).dn) (LA (mA4 M z).kd (mA4 M z).a (mA4 M z).was (mA4 M z).is (mA4 M z).dn) (LA (mA5 M z).kd (mA5 M z).a (mA5 M z).was (mA5 M z).is (mA5 M z).dn) (LA (mA6 M z).kd (mA6 M z).a (mA6 M z).was (mA6 M z).is (mA6 M z).dn) (LA (mA7 M z).kd (mA7 M z).a (mA7 M z).was (mA7 M z).is (mA7 M z).dn) (LA (mA8 M z g).kd (mA8 M z g).a (mA8 M z g).was (mA8 M z g).is (mA8 M z g).dn)) ⟨W.len _, by rw [q1]; rfl, W.idx i hi, W.ld hi rfl, rfl, by rw [q2]; rfl, as1_at (b := 3) (bm := 4) (xa := 11) (xd := 10) (M := M) (by rw [H.top]; exact H.hz.1) ⟨rfl, rfl, rfl, rfl, ⟨_, rfl⟩, by decide, by decide, H.lt⟩,
          last_at (b := 3) (bm := 4) (M := (mA1 M)) rfl rfl,
          fun s hs => nil0 (a := acM (mA1 M)) (m := mo) (fun y => fa1 false y) (wa1 H) hmo hs,
          as2_e (b := 3) (bm := 4) (xa := 11) (xd := 10) (M := mA1 M) (w0 := (getW M.ms aF)) (H.lt _) H.top ⟨rfl, rfl, rfl, rfl, ⟨_, rfl⟩, by decide, by decide, (la1 H)⟩,
          last_at (b := 3) (bm := 4) (M := (mA2 M z)) rfl rfl,
          fun s hs => nil0 (a := acM (mA2 M z)) (m := mo) (fun y => fa2 false y) (wa2 H) hmo hs,
          as3_e (b := 3) (bm := 4) (xa := 11) (xd := 10) (M := mA2 M z) (w0 := (getW M.ms aF)) (z2 := (slI (getW M.ms (aL z 2)))) (H.lt _) (by have := slI_or (getW M.ms (aL z 2)); omega) rfl H.top ⟨rfl, rfl, rfl, rfl, ⟨_, rfl⟩, by decide, by decide, (la2 H)⟩,
          last_at (b := 3) (bm := 4) (M := (mA3 M z)) rfl rfl,
          fun s hs => nil0 (a := acM (mA3 M z)) (m := mo) (fun y => fa3 false y) (wa3 H) hmo hs,
          as4_at (b := 3) (bm := 4) (xa := 11) (xd := 10) (M := mA3 M z) (w0 := (getW M.ms aF)) (z := z) (z2 := (slI (getW M.ms (aL z 2)))) H.hz (by rw [A4_sg]; exact H.sg) ⟨rfl, rfl, rfl, rfl, ⟨_, rfl⟩, by decide, by decide, (la3 H)⟩,
          last_at (b := 3) (bm := 4) (M := (mA4 M z)) rfl rfl,
          fun s hs => nil0 (a := acM (mA4 M z)) (m := mo) (fun y => fa4 false y) (wa4 H) hmo hs,
          as5_e (b := 3) (bm := 4) (xa := 11) (xd := 10) (M := mA4 M z) (w0 := (getW M.ms aF)) (z := z) (z2 := (slI (getW M.ms (aL z 2)))) A5_era ⟨rfl, rfl, rfl, rfl, ⟨_, rfl⟩, by decide, by decide, (la4 H)⟩,
          last_at (b := 3) (bm := 4) (M := (mA5 M z)) rfl rfl,
          fun s hs => nil0 (a := acM (mA5 M z)) (m := mo) (fun y => fa5 false y) (wa5 H) hmo hs,
          as6_at (b := 3) (bm := 4) (xa := 11) (xd := 10) (M := mA5 M z) (w0 := (getW M.ms aF)) (e := (getW M.ms aEra)) (z := z) (z2 := (slI (getW M.ms (aL z 2)))) ⟨rfl, rfl, rfl, rfl, ⟨_, rfl⟩, by decide, by decide, (la5 H)⟩,
          last_at (b := 3) (bm := 4) (M := (mA6 M z)) rfl rfl,
          fun s hs => nil0 (a := acM (mA6 M z)) (m := mo) (fun y => fa6 false y) (wa6 H) hmo hs,
          as7_e (b := 3) (bm := 4) (xa := 11) (xd := 13) (xk := 12) (M := mA6 M z) (e := (getW M.ms aEra)) (z := z) e7 ⟨rfl, rfl, rfl, rfl, rfl, ⟨_, rfl⟩, by decide, by decide, (la6 H)⟩,
          last_at (b := 3) (bm := 4) (M := (mA7 M z)) rfl rfl,
          fun s hs => nil0 (a := acM (mA7 M z)) (m := mo) (fun y => fa7 false y) (wa7 H) hmo hs,
          as8_at (b := 3) (bm := 4) (xa := 11) (xd := 13) (xk := 12) (M := mA7 M z) (e := (getW M.ms aEra)) (g0 := g) (z := z) (by have := H.hg; have := H.hm; omega) ⟨rfl, rfl, rfl, rfl, rfl, ⟨_, rfl⟩, by decide, by decide, (la7 H)⟩,
          last_at (b := 3) (bm := 4) (M := (mA8 M z g)) rfl rfl,
          fun s hs => nil0 (a := acM (mA8 M z g)) (m := mo) (fun y => (fa8 H) false y) (wa8 H) hmo hs, ha, by show some (AV.int .i64 (IntKind.i64.wrap (Int.ofNat (i + 1)))) = _; rw [i64_wrap (by simp only [Int.ofNat_eq_natCast]; omega) (by simp only [Int.ofNat_eq_natCast]; omega)], trivial⟩
    refine (stepL (M' := mA8 M z g) (i' := i + 1) hL hv W.fz A hx W.nm hj hj' 7 8 17 [17] (by decide) (.inl rfl) (.inl rfl) (.inr (by decide)) (by decide) (fun b hb => by rw [List.mem_singleton.1 hb]; exact ⟨by decide, rfl, rk_nm _ _⟩) (fun b hb => ?_) hL hv' ?_ rfl rfl rfl (by rcases hL with ⟨_, rfl, _, _⟩ | ⟨R, _, rfl, _, _⟩ <;> rfl) rfl rfl rfl).imp fun s' h => h.imp fun π' h => ⟨_, hj', h⟩
    · simp only [List.mem_cons, List.not_mem_nil, or_false] at hb
      rcases hb with rfl | rfl | rfl
      · exact ⟨.inl hL.fh.1, hL.fh.2 _⟩
      · exact ⟨.inl hL.fe.1, hL.fe.2 _⟩
      · exact ⟨.inl hv.obj.1, hv.obj.2 _⟩
    · unfold TL
      repeat (first | exact rfl | refine ⟨_, _, rfl, ?_, ?_⟩ | exact see_same _ | exact .inl W.na | exact .inl hv.jk | exact .inl ⟨rfl, rfl⟩)
theorem turn_ok1 (hi : i < bs.length) (hsm : i < 1000) (hk : held.length < 1000000) {z : Int} {g : Nat} (H : NewIn M z g mo) (hb : bs[i] % 3 ≠ 0) (h0 : held = []) : ∃ s' π' j', Cl j' ∧ Sound Tryz.prog (.code cLw (rens π (TL l0 gens mo xh i j)) s) ⟨.normal, rens π' (TL l0 gens mo (.osl 9 0 (held.length + 1) 3) (i + 1) j'), s'⟩ ∧ InvL (mA8 M z g) l (held ++ [(z, g)]) (.osl 9 0 (held.length + 1) 3) F2 s' π' := by
  have hmo := H.hm
  have e7 : hg (getW (mA6 M z).ms (aL z 0)) = g := by
    rw [show getW (mA6 M z).ms (aL z 0) = mkw 0 g from A7_0 H, hg_mkw (by omega) (by have := H.hg; omega)]
  have hz := H.top
  obtain ⟨oL, oh, oe, o9, hL, hv, A⟩ := hI
  have q1 : decide (Int.ofNat i < Int.ofNat bs.length) = true := decide_eq_true (by simp only [Int.ofNat_eq_natCast]; omega)
  have q2 : (Int.ofNat (bs[i] % 3) == Int.ofNat 0) = false := by simp; omega
  have qz : (Int.ofNat held.length == Int.ofNat 0) = true := by rw [h0]; rfl
  have hj' : Cl (jS (jS (jS j 64 (.agg (LA (mA8 M z g).kd (mA8 M z g).a (mA8 M z g).was (mA8 M z g).is (mA8 M z g).dn))) 71 (.agg (rk (z, g)))) 75 (.agg (rk (z, g)))) := jS_cl (jS_cl (jS_cl hj rfl) rfl) rfl
  have hv' : HV (held ++ [(z, g)]) 9 (.osl 9 0 (held.length + 1) 3) (.cells false (rowsOf rk (held ++ [(z, g)]))) := .inr ⟨[], by rw [List.append_nil], .inl ⟨by simp, rfl, by rw [List.length_append]; rfl⟩⟩
  rcases hv.more (s := sA M z g oL oh oe o9 F2) (y := (z, g)) (b2 := 16) (c2 := 1) rfl rfl hk with ⟨_, hne, ha⟩ | ha
  · exact absurd h0 hne
  ·
    have hx := runX_sound mixed none_sound (lw_ok1 l0 xh gens mo i bs.length (bs[i]'hi) i held.length j F2 (.cells false (M.C (.map 4))) (mapO M.ms) oL oh oe o9 z g (getW M.ms aEra) (popI 10) (hdrI 13) (rowsOf rk (held ++ [(z, g)])) (.cells false ((mA1 M).C (.map 4))) (mapO (mA1 M).ms) (.cells false ((mA2 M z).C (.map 4))) (mapO (mA2 M z).ms) (.cells false ((mA3 M z).C (.map 4))) (mapO (mA3 M z).ms) (.cells false ((mA4 M z).C (.map 4))) (mapO (mA4 M z).ms) (.cells false ((mA5 M z).C (.map 4))) (mapO (mA5 M z).ms) (.cells false ((mA6 M z).C (.map 4))) (mapO (mA6 M z).ms) (.cells false ((mA7 M z).C (.map 4))) (mapO (mA7 M z).ms) (.cells false ((mA8 M z g).C (.map 4))) (mapO (mA8 M z g).ms) (.cells false (Pcl 2 (getW M.ms aF) (Int.ofNat 0) (Int.ofNat 0) false)) (.cells false (Pcl 3 (getW M.ms aF) (slI (getW M.ms (aL z 2))) (Int.ofNat 0) false)) (.cells false (Pcl 0 (getW M.ms aF) (slI (getW M.ms (aL z 2))) z true)) (.cells false (Pcl 0 (getW M.ms aF) (slI (getW M.ms (aL z 2))) z true)) (.cells false (Pcl 0 (getW M.ms aF) (slI (getW M.ms (aL z 2))) z true)) (.cells false (Pcl 0 (getW M.ms aF) (slI (getW M.ms (aL z 2))) z true)) (.cells false (Hcl z (keepF 12) g true 0)) (.cells false (Hcl z (keepF 12) g true 1)) (.cells false [.int .u8 (Int.ofNat 1)]) (.cells false (Hcl z (keepF 12) 0 false 0)) (.cells false [.int .u8 (Int.ofNat 1)]) (.cells false [.int .u8 (Int.ofNat 1)]) (LA (mA1 M).kd (mA1 M).a (mA1 M).was (mA1 M).is (mA1 M).dn) (LA (mA2 M z).kd (mA2 M z).a (mA2 M z).was (mA2 M z).is (mA2 M z).dn) (LA (mA3 M z).kd (mA3 M z).a (mA3 M z).was (mA3 M z).is (mA3 M z).dn) (LA (mA4 M z).kd (mA4 M z).a (mA4 M z).was (mA4 M z).is (mA4 M z).dn) (LA (mA5 M z).kd (mA5 M z).a (mA5 M z).was (mA5 M z).is (mA5 M z).dn) (LA (mA6 M z).kd (mA6 M z).a (mA6 M z).was (mA6 M z).is (mA6 M z).dn) (LA (mA7 M z).kd (mA7 M z).a (mA7 M z).was (mA7 M z).is (mA7 M z).dn) (LA (mA8 M z g).kd (mA8 M z g).a (mA8 M z g).was (mA8 M z g).is (mA8 M z g).dn)) ⟨W.len _, by rw [q1]; rfl, W.idx i hi, W.ld hi rfl, rfl, by rw [q2]; rfl, hv.len _, by rw [qz]; rfl, as1_at (b := 3) (bm := 4) (xa := 11) (xd := 10) (M := M) (by rw [H.top]; exact H.hz.1) ⟨rfl, rfl, rfl, rfl, ⟨_, rfl⟩, by decide, by decide, H.lt⟩,
          last_at (b := 3) (bm := 4) (M := (mA1 M)) rfl rfl,
          fun s hs => nil0 (a := acM (mA1 M)) (m := mo) (fun y => fa1 false y) (wa1 H) hmo hs,
          as2_e (b := 3) (bm := 4) (xa := 11) (xd := 10) (M := mA1 M) (w0 := (getW M.ms aF)) (H.lt _) H.top ⟨rfl, rfl, rfl, rfl, ⟨_, rfl⟩, by decide, by decide, (la1 H)⟩,
          last_at (b := 3) (bm := 4) (M := (mA2 M z)) rfl rfl,
          fun s hs => nil0 (a := acM (mA2 M z)) (m := mo) (fun y => fa2 false y) (wa2 H) hmo hs,
          as3_e (b := 3) (bm := 4) (xa := 11) (xd := 10) (M := mA2 M z) (w0 := (getW M.ms aF)) (z2 := (slI (getW M.ms (aL z 2)))) (H.lt _) (by have := slI_or (getW M.ms (aL z 2)); omega) rfl H.top ⟨rfl, rfl, rfl, rfl, ⟨_, rfl⟩, by decide, by decide, (la2 H)⟩,
          last_at (b := 3) (bm := 4) (M := (mA3 M z)) rfl rfl,
          fun s hs => nil0 (a := acM (mA3 M z)) (m := mo) (fun y => fa3 false y) (wa3 H) hmo hs,
          as4_at (b := 3) (bm := 4) (xa := 11) (xd := 10) (M := mA3 M z) (w0 := (getW M.ms aF)) (z := z) (z2 := (slI (getW M.ms (aL z 2)))) H.hz (by rw [A4_sg]; exact H.sg) ⟨rfl, rfl, rfl, rfl, ⟨_, rfl⟩, by decide, by decide, (la3 H)⟩,
          last_at (b := 3) (bm := 4) (M := (mA4 M z)) rfl rfl,
          fun s hs => nil0 (a := acM (mA4 M z)) (m := mo) (fun y => fa4 false y) (wa4 H) hmo hs,
          as5_e (b := 3) (bm := 4) (xa := 11) (xd := 10) (M := mA4 M z) (w0 := (getW M.ms aF)) (z := z) (z2 := (slI (getW M.ms (aL z 2)))) A5_era ⟨rfl, rfl, rfl, rfl, ⟨_, rfl⟩, by decide, by decide, (la4 H)⟩,
          last_at (b := 3) (bm := 4) (M := (mA5 M z)) rfl rfl,
          fun s hs => nil0 (a := acM (mA5 M z)) (m := mo) (fun y => fa5 false y) (wa5 H) hmo hs,
          as6_at (b := 3) (bm := 4) (xa := 11) (xd := 10) (M := mA5 M z) (w0 := (getW M.ms aF)) (e := (getW M.ms aEra)) (z := z) (z2 := (slI (getW M.ms (aL z 2)))) ⟨rfl, rfl, rfl, rfl, ⟨_, rfl⟩, by decide, by decide, (la5 H)⟩,
          last_at (b := 3) (bm := 4) (M := (mA6 M z)) rfl rfl,
          fun s hs => nil0 (a := acM (mA6 M z)) (m := mo) (fun y => fa6 false y) (wa6 H) hmo hs,
          as7_e (b := 3) (bm := 4) (xa := 11) (xd := 13) (xk := 12) (M := mA6 M z) (e := (getW M.ms aEra)) (z := z) e7 ⟨rfl, rfl, rfl, rfl, rfl, ⟨_, rfl⟩, by decide, by decide, (la6 H)⟩,
          last_at (b := 3) (bm := 4) (M := (mA7 M z)) rfl rfl,
          fun s hs => nil0 (a := acM (mA7 M z)) (m := mo) (fun y => fa7 false y) (wa7 H) hmo hs,
          as8_at (b := 3) (bm := 4) (xa := 11) (xd := 13) (xk := 12) (M := mA7 M z) (e := (getW M.ms aEra)) (g0 := g) (z := z) (by have := H.hg; have := H.hm; omega) ⟨rfl, rfl, rfl, rfl, rfl, ⟨_, rfl⟩, by decide, by decide, (la7 H)⟩,
          last_at (b := 3) (bm := 4) (M := (mA8 M z g)) rfl rfl,
          fun s hs => nil0 (a := acM (mA8 M z g)) (m := mo) (fun y => (fa8 H) false y) (wa8 H) hmo hs, ha, by show some (AV.int .i64 (IntKind.i64.wrap (Int.ofNat (i + 1)))) = _; rw [i64_wrap (by simp only [Int.ofNat_eq_natCast]; omega) (by simp only [Int.ofNat_eq_natCast]; omega)], trivial⟩
    refine (stepL (M' := mA8 M z g) (i' := i + 1) hL hv W.fz A hx W.nm hj hj' 7 8 17 [17] (by decide) (.inl rfl) (.inl rfl) (.inr (by decide)) (by decide) (fun b hb => by rw [List.mem_singleton.1 hb]; exact ⟨by decide, rfl, rk_nm _ _⟩) (fun b hb => ?_) hL hv' ?_ rfl rfl rfl (by rcases hL with ⟨_, rfl, _, _⟩ | ⟨R, _, rfl, _, _⟩ <;> rfl) rfl rfl rfl).imp fun s' h => h.imp fun π' h => ⟨_, hj', h⟩
    · simp only [List.mem_cons, List.not_mem_nil, or_false] at hb
      rcases hb with rfl | rfl | rfl
      · exact ⟨.inl hL.fh.1, hL.fh.2 _⟩
      · exact ⟨.inl hL.fe.1, hL.fe.2 _⟩
      · exact ⟨.inl hv.obj.1, hv.obj.2 _⟩
    · unfold TL
      repeat (first | exact rfl | refine ⟨_, _, rfl, ?_, ?_⟩ | exact see_same _ | exact .inl W.na | exact .inl hv.jk | exact .inl ⟨rfl, rfl⟩)
end
/-! ### the turn that retires and frees -/
/-- The memory behind it. -/
def fL (M : PM) (z : Int) (g mo : Nat) : PM := ((fM (M.load (aL z 0)) z g mo).load (aL z 0))
def sFa (M : PM) (z : Int) (g : Nat) (oL oh oe o9 : AObj) (F2 : List AV) : AS := { h := { bs := [(11, AObj.cells false [AV.int IntKind.i64 (Int.ofNat 0), AV.int IntKind.i64 (Int.ofNat 0), AV.int IntKind.i64 z, AV.int IntKind.u32 (Int.ofNat g), AV.bool false]), (10, AObj.cells false [AV.int IntKind.i64 z, AV.int IntKind.u32 (Int.ofNat g), AV.bool false]), (3, (.cells false ((M.load (aL z 0)).C (.map 4)))), (4, (mapO M.ms)), (5, AObj.cells false [AV.bool false, AV.int IntKind.u8 (Int.ofNat 0), AV.int IntKind.u64 (Int.ofNat 0), AV.int IntKind.u64 (Int.ofNat 0), AV.int IntKind.u64 (Int.ofNat 0), AV.int IntKind.u64 (Int.ofNat 0), AV.bool true, AV.int IntKind.i64 (Int.ofNat 0), AV.ptr 6 0]), (6, oL), (7, oh), (8, oe), (9, o9), (0, AObj.cells true wf), (1, AObj.cells true lf), (2, AObj.cells true F2)], len := 12, esc := none, wr := [4, 3, 10] }, nx := 12 }
def sFb (M : PM) (z : Int) (g : Nat) (oL oh oe o9 : AObj) (F2 : List AV) (R : List AV) : AS := { h := { bs := [(12, AObj.cells false [AV.int IntKind.i64 (Int.ofNat 0), AV.int IntKind.i64 (Int.ofNat 0), AV.int IntKind.i64 z, AV.int IntKind.u32 (Int.ofNat g), AV.bool false]), (11, AObj.cells false R), (10, AObj.cells false [AV.int IntKind.i64 z, AV.int IntKind.u32 (Int.ofNat g), AV.bool false]), (3, (.cells false ((M.load (aL z 0)).C (.map 4)))), (4, (mapO M.ms)), (5, AObj.cells false [AV.bool false, AV.int IntKind.u8 (Int.ofNat 0), AV.int IntKind.u64 (Int.ofNat 0), AV.int IntKind.u64 (Int.ofNat 0), AV.int IntKind.u64 (Int.ofNat 0), AV.int IntKind.u64 (Int.ofNat 0), AV.bool true, AV.int IntKind.i64 (Int.ofNat 0), AV.ptr 6 0]), (6, oL), (7, oh), (8, oe), (9, o9), (0, AObj.cells true wf), (1, AObj.cells true lf), (2, AObj.cells true F2)], len := 13, esc := none, wr := [4, 3, 10] }, nx := 13 }
def sPa (M : PM) (z : Int) (g : Nat) (oL oh oe o9 : AObj) (F2 : List AV) : AS := { h := { bs := [(10, AObj.cells false [AV.int IntKind.i64 z, AV.int IntKind.u32 (Int.ofNat g), AV.bool false]), (3, (.cells false (M.C (.map 4)))), (4, (mapO M.ms)), (5, AObj.cells false [AV.bool false, AV.int IntKind.u8 (Int.ofNat 0), AV.int IntKind.u64 (Int.ofNat 0), AV.int IntKind.u64 (Int.ofNat 0), AV.int IntKind.u64 (Int.ofNat 0), AV.int IntKind.u64 (Int.ofNat 0), AV.bool true, AV.int IntKind.i64 (Int.ofNat 0), AV.ptr 6 0]), (6, oL), (7, oh), (8, oe), (9, o9), (0, AObj.cells true wf), (1, AObj.cells true lf), (2, AObj.cells true F2)], len := 11, esc := none, wr := [10] }, nx := 11 }
theorem sl_junk {y : AV} {n : Nat} (h : sliceLen y = some n) : junkA = junkOf y ∧ junkable y = true := by
  unfold sliceLen at h
  split at h
  · exact ⟨rfl, rfl⟩
  · exact ⟨rfl, rfl⟩
  · exact ⟨rfl, rfl⟩
  · cases h
theorem rem_q (b k : Nat) : (Int.ofNat b).tmod (Int.ofNat (k + 1)) = Int.ofNat (b % (k + 1)) := rfl
section
variable {M : PM} {l held : List (Int × Nat)} {xh : AV} {F2 : List AV} {s : AS} {π : Nat → Nat} {l0 : AV} {gens mo i : Nat} {j : Nat → AV} {bs : List Nat} (W : RwB l0 F2 bs) (hj : Cl j) (hI : InvL M l held xh F2 s π)
include W hj hI
theorem turn_fr (hi : i < bs.length) (hsm : i < 1000) (hk : held.length < 1000000) (hlk : l.length < 999999) (hb : bs[i] % 3 ≠ 0) {c : Nat} (hce : c = bs[i] % held.length) (hc : c < held.length) {z : Int} {g : Nat} (hzg : held[c] = (z, g)) (H : FreeIn M z g mo) :
    ∃ l' xh' s' π' j', Cl j' ∧ l'.length ≤ l.length + 1 ∧ Sound Tryz.prog (.code cLw (rens π (TL l0 gens mo xh i j)) s) ⟨.normal, rens π' (TL l0 gens mo xh' (i + 1) j'), s'⟩ ∧ InvL (fL M z g mo) l' (held.take c ++ held.drop (c + 1)) xh' F2 s' π' := by
  have hmo := H.hm
  obtain ⟨oL, oh, oe, o9, hL, hv, A⟩ := hI
  have H1 : FreeIn (M.load (aL z 0)) z g mo := ⟨H.lt, H.hz, H.hd, H.hg, H.hm, H.sg, H.pk⟩
  have st := fM_stale H1
  have q1 : decide (Int.ofNat i < Int.ofNat bs.length) = true := decide_eq_true (by simp only [Int.ofNat_eq_natCast]; omega)
  have q2 : (Int.ofNat (bs[i] % 3) == Int.ofNat 0) = false := by simp; omega
  have qz : (Int.ofNat held.length == Int.ofNat 0) = false := beq_eq_false_iff_ne.2 (by simp only [Int.ofNat_eq_natCast, ne_eq]; omega)
  have hbl : bs[i] < 256 := W.lt _ (List.getElem_mem hi)
  obtain ⟨k', hk'⟩ : ∃ k', held.length = k' + 1 := ⟨held.length - 1, by omega⟩
  obtain ⟨y, hy1, hy2, hy3⟩ := hv.sl2 hc
  have hyj := sl_junk hy2
  have hld : ∀ s : AS, s.get 9 = some o9 → loadA Tryz.prog s 35 (.ptr 9 (0 + c * 3)) = some (.agg (rk (z, g))) := fun s hs => by
    have := hv.ld hc hs
    rwa [hzg] at this
  have hj' : Cl (jS (jS (jS (jS (jS (jS (jS (jS j 89 (.agg (rk (z, g)))) 99 (.agg (rk (z, g)))) 102 (.agg (rk (z, g)))) 104 (.agg (rk (z, g)))) 111 (.agg (rk (z, g)))) 118 (.agg (rk (z, g)))) 120 (.agg (rk (z, g)))) 100 (.agg (ghC (gh1 z g)))) := (jS_cl (jS_cl (jS_cl (jS_cl (jS_cl (jS_cl (jS_cl (jS_cl hj rfl) rfl) rfl) rfl) rfl) rfl) rfl) rfl)
  have hlen : (held.take c ++ held.drop (c + 1)).length = held.length - 1 := by simp; omega
  have hsp : held = held.take c ++ held.drop c := (List.take_append_drop c held).symm
  by_cases hlast : c + 1 = held.length
  ·
    have hF0 := frees_at (s := sFa M z g oL oh oe o9 F2) (b := 3) (bm := 4) (xg := 5) (xl := 6) (bh := 7) (be := 8) (xo := 11) (M := (M.load (aL z 0))) (z := z) (g := g) (mo := mo) H1 hL (by omega) ⟨⟨_, rfl⟩, ⟨_, rfl⟩, by decide, by decide⟩ rfl rfl rfl rfl rfl rfl rfl
    obtain ⟨l', oL1, oh1, oe1, p1, p2, hl', ⟨R, hR, hN⟩, hF⟩ := hF0
    have hx := runX_sound mixed none_sound (lw_fra l0 xh gens mo i bs.length (bs[i]'hi) i held.length j F2 (.cells false (M.C (.map 4))) (mapO M.ms) oL oh oe o9 z g (getW M.ms (aL z 0)) (getW (fM (M.load (aL z 0)) z g mo).ms (aL z 0)) c (0 + c * 3) (.slice 9 (0 + 0 * 3) (c - 0) (c - 0)) y (.slice 9 (0 + 0 * 3) (c - 0) (c - 0)) [] (.cells false ((M.load (aL z 0)).C (.map 4))) (mapO M.ms) (.cells false ((fM (M.load (aL z 0)) z g mo).C (.map 4))) (mapO (fM (M.load (aL z 0)) z g mo).ms) (.cells false (((fM (M.load (aL z 0)) z g mo).load (aL z 0)).C (.map 4))) (mapO (fM (M.load (aL z 0)) z g mo).ms) oL1 oh1 oe1 p1 p2 (.cells false (ghC (gh1 z g))) (.cells false (gcl 6))) ⟨W.len _, by rw [q1]; rfl, W.idx i hi, W.ld hi rfl, rfl, by rw [q2]; rfl, hv.len _, by rw [qz]; rfl, W.idx i hi, W.ld hi rfl, i64_of (by omega), hv.len _, by rw [hce, hk']; exact congrArg (fun x => some (AV.int .i64 x)) (rem_q _ _), hv.idx hc, hld _ rfl, hv.sl1 hc, by show some (AV.int .i64 (IntKind.i64.wrap (Int.ofNat (c + 1)))) = _; rw [i64_wrap (by simp only [Int.ofNat_eq_natCast]; omega) (by simp only [Int.ofNat_eq_natCast]; omega)], hy1, HV.cut (c := c) rfl hy2 (hy3 (sPa M z g oL oh oe o9 F2) rfl) hlast,
      word_at (b := 3) (bm := 4) (M := M) rfl rfl z g false, fun s hs => deref_live (H.lt _) (by rw [H.hd, hs_mkw (by omega)]) (by rw [H.hd, hg_mkw (by omega) (by have := H.hg; omega)]) s hs, hF,
      word_at (b := 3) (bm := 4) (M := (fM (M.load (aL z 0)) z g mo)) rfl rfl z g false, fun s hs => deref_stale (st.1 _) st.2.1 st.2.2 s hs, by show some (AV.int .i64 (IntKind.i64.wrap (Int.ofNat (i + 1)))) = _; rw [i64_wrap (by simp only [Int.ofNat_eq_natCast]; omega) (by simp only [Int.ofNat_eq_natCast]; omega)], trivial⟩
    have hv' : HV (held.take c ++ held.drop (c + 1)) 9 (.slice 9 (0 + 0 * 3) (c - 0) (c - 0)) o9 := by
      have hd0 : held.drop (c + 1) = [] := List.drop_eq_nil_of_le (by omega)
      have ht : (held.take c).length = c := by simp; omega
      rcases hv with ⟨h1, _, _⟩ | ⟨r, h1, _⟩
      · rw [h1] at hc; simp at hc
      · refine .inr ⟨held.drop c ++ r, ?_, .inr ?_⟩
        · rw [hd0, List.append_nil, ← List.append_assoc, List.take_append_drop]
          exact h1
        · rw [hd0, List.append_nil, ht]
          rfl
    have hL' : Lst l' 7 8 (.cells false [.osl 8 0 l'.length 6, .map 7]) (hadO l') (.cells false R) := .inr ⟨R, hR, rfl, rfl, rfl⟩
    have nR : ∀ p, namess p R = true := fun p => namess_sub (fun _ h => by cases h) hR.nm
    rcases hN with ⟨rfl, rfl, rfl, rfl, rfl⟩ | ⟨rfl, rfl, rfl, rfl, rfl⟩ | ⟨rfl, rfl, rfl, rfl, rfl⟩
    · refine ⟨l', (.slice 9 (0 + 0 * 3) (c - 0) (c - 0)), ?_⟩
      refine (stepL (M' := fL M z g mo) (i' := i + 1) (xh' := (.slice 9 (0 + 0 * 3) (c - 0) (c - 0))) hL hv W.fz A hx W.nm hj hj' 12 13 9 [12, 13] (by decide) (.inr (by decide)) (.inr (by decide)) (.inl rfl) (by decide) (fun b hb => by
        simp only [List.mem_cons, List.not_mem_nil, or_false] at hb
        rcases hb with rfl | rfl
        · exact ⟨by decide, rfl, hadO_names _ _⟩
        · exact ⟨by decide, rfl, nR _⟩) (fun b hb => ?_) hL' hv' ?_ rfl rfl rfl rfl rfl rfl rfl).imp fun s' h => h.imp fun π' h => ⟨_, hj', hl', h⟩
      · simp only [List.mem_cons, List.not_mem_nil, or_false] at hb
        rcases hb with rfl | rfl | rfl
        · exact ⟨.inl rfl, rfl⟩
        · exact ⟨.inl rfl, rfl⟩
        · exact ⟨.inl hv.obj.1, hv.obj.2 _⟩
      · unfold TL
        repeat (first | exact rfl | refine ⟨_, _, rfl, ?_, ?_⟩ | exact see_same _ | exact .inl W.na | exact .inl hv.jk | exact .inl hyj | exact .inl ⟨rfl, rfl⟩)
    · refine ⟨l', (.slice 9 (0 + 0 * 3) (c - 0) (c - 0)), ?_⟩
      refine (stepL (M' := fL M z g mo) (i' := i + 1) (xh' := (.slice 9 (0 + 0 * 3) (c - 0) (c - 0))) hL hv W.fz A hx W.nm hj hj' 7 12 9 [12] (by decide) (.inl rfl) (.inr (by decide)) (.inl rfl) (by decide) (fun b hb => by
        simp only [List.mem_cons, List.not_mem_nil, or_false] at hb
        rcases hb with rfl
        · exact ⟨by decide, rfl, nR _⟩) (fun b hb => ?_) hL' hv' ?_ rfl rfl rfl rfl rfl rfl rfl).imp fun s' h => h.imp fun π' h => ⟨_, hj', hl', h⟩
      · simp only [List.mem_cons, List.not_mem_nil, or_false] at hb
        rcases hb with rfl | rfl | rfl
        · exact ⟨.inl rfl, hadO_names _ _⟩
        · exact ⟨.inr rfl, rfl⟩
        · exact ⟨.inl hv.obj.1, hv.obj.2 _⟩
      · unfold TL
        repeat (first | exact rfl | refine ⟨_, _, rfl, ?_, ?_⟩ | exact see_same _ | exact .inl W.na | exact .inl hv.jk | exact .inl hyj | exact .inl ⟨rfl, rfl⟩)
    · refine ⟨l', (.slice 9 (0 + 0 * 3) (c - 0) (c - 0)), ?_⟩
      refine (stepL (M' := fL M z g mo) (i' := i + 1) (xh' := (.slice 9 (0 + 0 * 3) (c - 0) (c - 0))) hL hv W.fz A hx W.nm hj hj' 7 8 9 [] (by decide) (.inl rfl) (.inl rfl) (.inl rfl) (by decide) (fun b hb => by cases hb) (fun b hb => ?_) hL' hv' ?_ rfl rfl rfl rfl rfl rfl rfl).imp fun s' h => h.imp fun π' h => ⟨_, hj', hl', h⟩
      · simp only [List.mem_cons, List.not_mem_nil, or_false] at hb
        rcases hb with rfl | rfl | rfl
        · exact ⟨.inl rfl, hadO_names _ _⟩
        · exact ⟨.inl rfl, nR _⟩
        · exact ⟨.inl hv.obj.1, hv.obj.2 _⟩
      · unfold TL
        repeat (first | exact rfl | refine ⟨_, _, rfl, ?_, ?_⟩ | exact see_same _ | exact .inl W.na | exact .inl hv.jk | exact .inl hyj | exact .inl ⟨rfl, rfl⟩)
  ·
    have hF0 := frees_at (s := sFb M z g oL oh oe o9 F2 (rowsOf rk (held.take c ++ held.drop (c + 1)))) (b := 3) (bm := 4) (xg := 5) (xl := 6) (bh := 7) (be := 8) (xo := 12) (M := (M.load (aL z 0))) (z := z) (g := g) (mo := mo) H1 hL (by omega) ⟨⟨_, rfl⟩, ⟨_, rfl⟩, by decide, by decide⟩ rfl rfl rfl rfl rfl rfl rfl
    obtain ⟨l', oL1, oh1, oe1, p1, p2, hl', ⟨R, hR, hN⟩, hF⟩ := hF0
    have hx := runX_sound mixed none_sound (lw_frb l0 xh gens mo i bs.length (bs[i]'hi) i held.length j F2 (.cells false (M.C (.map 4))) (mapO M.ms) oL oh oe o9 z g (getW M.ms (aL z 0)) (getW (fM (M.load (aL z 0)) z g mo).ms (aL z 0)) c (0 + c * 3) (.slice 9 (0 + 0 * 3) (c - 0) (c - 0)) y .nilSlice (rowsOf rk (held.take c ++ held.drop (c + 1))) (.cells false ((M.load (aL z 0)).C (.map 4))) (mapO M.ms) (.cells false ((fM (M.load (aL z 0)) z g mo).C (.map 4))) (mapO (fM (M.load (aL z 0)) z g mo).ms) (.cells false (((fM (M.load (aL z 0)) z g mo).load (aL z 0)).C (.map 4))) (mapO (fM (M.load (aL z 0)) z g mo).ms) oL1 oh1 oe1 p1 p2 (.cells false (ghC (gh1 z g))) (.cells false (gcl 6)) (held.length - 1)) ⟨W.len _, by rw [q1]; rfl, W.idx i hi, W.ld hi rfl, rfl, by rw [q2]; rfl, hv.len _, by rw [qz]; rfl, W.idx i hi, W.ld hi rfl, i64_of (by omega), hv.len _, by rw [hce, hk']; exact congrArg (fun x => some (AV.int .i64 x)) (rem_q _ _), hv.idx hc, hld _ rfl, hv.sl1 hc, by show some (AV.int .i64 (IntKind.i64.wrap (Int.ofNat (c + 1)))) = _; rw [i64_wrap (by simp only [Int.ofNat_eq_natCast]; omega) (by simp only [Int.ofNat_eq_natCast]; omega)], hy1, hv.del hc (s := sPa M z g oL oh oe o9 F2) rfl hy2 (hy3 (sPa M z g oL oh oe o9 F2) rfl) (by omega) hk,
      word_at (b := 3) (bm := 4) (M := M) rfl rfl z g false, fun s hs => deref_live (H.lt _) (by rw [H.hd, hs_mkw (by omega)]) (by rw [H.hd, hg_mkw (by omega) (by have := H.hg; omega)]) s hs, hF,
      word_at (b := 3) (bm := 4) (M := (fM (M.load (aL z 0)) z g mo)) rfl rfl z g false, fun s hs => deref_stale (st.1 _) st.2.1 st.2.2 s hs, by show some (AV.int .i64 (IntKind.i64.wrap (Int.ofNat (i + 1)))) = _; rw [i64_wrap (by simp only [Int.ofNat_eq_natCast]; omega) (by simp only [Int.ofNat_eq_natCast]; omega)], trivial⟩
    have hv' : HV (held.take c ++ held.drop (c + 1)) 9 (.osl 9 0 (held.length - 1) 3) (.cells false (rowsOf rk (held.take c ++ held.drop (c + 1)))) := .inr ⟨[], by rw [List.append_nil], .inl ⟨by intro e; rw [e] at hlen; simp at hlen; omega, rfl, by rw [hlen]⟩⟩
    have hL' : Lst l' 7 8 (.cells false [.osl 8 0 l'.length 6, .map 7]) (hadO l') (.cells false R) := .inr ⟨R, hR, rfl, rfl, rfl⟩
    have nR : ∀ p, namess p R = true := fun p => namess_sub (fun _ h => by cases h) hR.nm
    rcases hN with ⟨rfl, rfl, rfl, rfl, rfl⟩ | ⟨rfl, rfl, rfl, rfl, rfl⟩ | ⟨rfl, rfl, rfl, rfl, rfl⟩
    · refine ⟨l', (.osl 9 0 (held.length - 1) 3), ?_⟩
      refine (stepL (M' := fL M z g mo) (i' := i + 1) (xh' := (.osl 9 0 (held.length - 1) 3)) hL hv W.fz A hx W.nm hj hj' 13 14 11 [11, 13, 14] (by decide) (.inr (by decide)) (.inr (by decide)) (.inr (by decide)) (by decide) (fun b hb => by
        simp only [List.mem_cons, List.not_mem_nil, or_false] at hb
        rcases hb with rfl | rfl | rfl
        · exact ⟨by decide, rfl, rk_nm _ _⟩
        · exact ⟨by decide, rfl, hadO_names _ _⟩
        · exact ⟨by decide, rfl, nR _⟩) (fun b hb => ?_) hL' hv' ?_ rfl rfl rfl rfl rfl rfl rfl).imp fun s' h => h.imp fun π' h => ⟨_, hj', hl', h⟩
      · simp only [List.mem_cons, List.not_mem_nil, or_false] at hb
        rcases hb with rfl | rfl | rfl
        · exact ⟨.inl rfl, rfl⟩
        · exact ⟨.inl rfl, rfl⟩
        · exact ⟨.inl hv.obj.1, hv.obj.2 _⟩
      · unfold TL
        repeat (first | exact rfl | refine ⟨_, _, rfl, ?_, ?_⟩ | exact see_same _ | exact .inl W.na | exact .inl hv.jk | exact .inl hyj | exact .inl ⟨rfl, rfl⟩)
    · refine ⟨l', (.osl 9 0 (held.length - 1) 3), ?_⟩
      refine (stepL (M' := fL M z g mo) (i' := i + 1) (xh' := (.osl 9 0 (held.length - 1) 3)) hL hv W.fz A hx W.nm hj hj' 7 13 11 [11, 13] (by decide) (.inl rfl) (.inr (by decide)) (.inr (by decide)) (by decide) (fun b hb => by
        simp only [List.mem_cons, List.not_mem_nil, or_false] at hb
        rcases hb with rfl | rfl
        · exact ⟨by decide, rfl, rk_nm _ _⟩
        · exact ⟨by decide, rfl, nR _⟩) (fun b hb => ?_) hL' hv' ?_ rfl rfl rfl rfl rfl rfl rfl).imp fun s' h => h.imp fun π' h => ⟨_, hj', hl', h⟩
      · simp only [List.mem_cons, List.not_mem_nil, or_false] at hb
        rcases hb with rfl | rfl | rfl
        · exact ⟨.inl rfl, hadO_names _ _⟩
        · exact ⟨.inr rfl, rfl⟩
        · exact ⟨.inl hv.obj.1, hv.obj.2 _⟩
      · unfold TL
        repeat (first | exact rfl | refine ⟨_, _, rfl, ?_, ?_⟩ | exact see_same _ | exact .inl W.na | exact .inl hv.jk | exact .inl hyj | exact .inl ⟨rfl, rfl⟩)
    · refine ⟨l', (.osl 9 0 (held.length - 1) 3), ?_⟩
      refine (stepL (M' := fL M z g mo) (i' := i + 1) (xh' := (.osl 9 0 (held.length - 1) 3)) hL hv W.fz A hx W.nm hj hj' 7 8 11 [11] (by decide) (.inl rfl) (.inl rfl) (.inr (by decide)) (by decide) (fun b hb => by
        simp only [List.mem_cons, List.not_mem_nil, or_false] at hb
        rcases hb with rfl
        · exact ⟨by decide, rfl, rk_nm _ _⟩) (fun b hb => ?_) hL' hv' ?_ rfl rfl rfl rfl rfl rfl rfl).imp fun s' h => h.imp fun π' h => ⟨_, hj', hl', h⟩
      · simp only [List.mem_cons, List.not_mem_nil, or_false] at hb
        rcases hb with rfl | rfl | rfl
        · exact ⟨.inl rfl, hadO_names _ _⟩
        · exact ⟨.inl rfl, nR _⟩
        · exact ⟨.inl hv.obj.1, hv.obj.2 _⟩
      · unfold TL
        repeat (first | exact rfl | refine ⟨_, _, rfl, ?_, ?_⟩ | exact see_same _ | exact .inl W.na | exact .inl hv.jk | exact .inl hyj | exact .inl ⟨rfl, rfl⟩)
end
/-! ### the law's loop -/
section
variable {F2 : List AV} {l0 : AV} {gens mo : Nat} {bs : List Nat} (W : RwB l0 F2 bs)
include W
theorem law_loop (h60 : bs.length ≤ 60) : ∀ (d i : Nat) (M : PM) (l held : List (Int × Nat)) (fl : List Int) (xh : AV) (s : AS) (π : Nat → Nat) (j : Nat → AV), bs.length - i = d → i ≤ bs.length → LI M mo held fl i → l.length ≤ i → Cl j → InvL M l held xh F2 s π →
    ∃ M' l' held' xh' s' π' j', Cl j' ∧ Sound Tryz.prog (.code (.loop cLw) (rens π (TL l0 gens mo xh i j)) s) ⟨.exit 0, rens π' (TL l0 gens mo xh' bs.length j'), s'⟩ ∧ InvL M' l' held' xh' F2 s' π' := by
  intro d
  induction d with
  | zero =>
    intro i M l held fl xh s π j hd hi hM hl hj hI
    have : i = bs.length := by omega
    subst this
    obtain ⟨s', π', h1, h2⟩ := turn_end (gens := gens) (mo := mo) (i := bs.length) W hj hI (by omega)
    exact ⟨M, l, held, xh, s', π', j, hj, loop_stop h1 (by simp), h2⟩
  | succ d ih =>
    intro i M l held fl xh s π j hd hi hM hl hj hI
    have hlt : i < bs.length := by omega
    have hk := hM.hk
    have hm4 := hM.mo4
    by_cases hb : bs[i] % 3 = 0
    · cases hf : fl with
      | nil =>
        obtain ⟨s1, π1, j1, hj1, h1, h2⟩ := turn_no0 (gens := gens) (mo := mo) (i := i) W hj hI hlt (by omega) hM.lt (by omega) (hM.none hf) hb
        obtain ⟨M', l', held', xh', s', π', j', h3, h4, h5⟩ := ih (i + 1) _ _ _ _ _ _ _ _ (by omega) (by omega) (hM.of_ms (M' := mA1 M) rfl (Nat.le_succ i)) (by omega) hj1 h2
        exact ⟨M', l', held', xh', s', π', j', h3, loop_next h1 h4, h5⟩
      | cons z t =>
        obtain ⟨g, H⟩ := hM.new hf
        obtain ⟨s1, π1, j1, hj1, h1, h2⟩ := turn_ok0 (gens := gens) (mo := mo) (i := i) W hj hI hlt (by omega) (by omega) H hb
        obtain ⟨M', l', held', xh', s', π', j', h3, h4, h5⟩ := ih (i + 1) _ _ _ _ _ _ _ _ (by omega) (by omega) (hM.alloc hf H) (by omega) hj1 h2
        exact ⟨M', l', held', xh', s', π', j', h3, loop_next h1 h4, h5⟩
    · by_cases h0 : held = []
      · cases hf : fl with
        | nil =>
          obtain ⟨s1, π1, j1, hj1, h1, h2⟩ := turn_no1 (gens := gens) (mo := mo) (i := i) W hj hI hlt (by omega) hM.lt (by omega) (hM.none hf) hb h0
          obtain ⟨M', l', held', xh', s', π', j', h3, h4, h5⟩ := ih (i + 1) _ _ _ _ _ _ _ _ (by omega) (by omega) (hM.of_ms (M' := mA1 M) rfl (Nat.le_succ i)) (by omega) hj1 h2
          exact ⟨M', l', held', xh', s', π', j', h3, loop_next h1 h4, h5⟩
        | cons z t =>
          obtain ⟨g, H⟩ := hM.new hf
          obtain ⟨s1, π1, j1, hj1, h1, h2⟩ := turn_ok1 (gens := gens) (mo := mo) (i := i) W hj hI hlt (by omega) (by omega) H hb h0
          obtain ⟨M', l', held', xh', s', π', j', h3, h4, h5⟩ := ih (i + 1) _ _ _ _ _ _ _ _ (by omega) (by omega) (hM.alloc hf H) (by omega) hj1 h2
          exact ⟨M', l', held', xh', s', π', j', h3, loop_next h1 h4, h5⟩
      · have hpos : 0 < held.length := List.length_pos_iff.2 h0
        have hc : bs[i] % held.length < held.length := Nat.mod_lt _ hpos
        have hM1 := hM.of_ms (M' := M.load (aL (held[bs[i] % held.length]'hc).1 0)) rfl (Nat.le_refl i)
        obtain ⟨fl', hfr⟩ := hM1.free hc (by omega)
        obtain ⟨l1, x1, s1, π1, j1, hj1, hl1, h1, h2⟩ := turn_fr (gens := gens) (mo := mo) (i := i) W hj hI hlt (by omega) (by omega) (by omega) hb rfl hc (z := (held[bs[i] % held.length]'hc).1) (g := (held[bs[i] % held.length]'hc).2) rfl (hM.old (List.getElem_mem hc) (by omega))
        obtain ⟨M', l', held', xh', s', π', j', h3, h4, h5⟩ := ih (i + 1) _ _ _ _ _ _ _ _ (by omega) (by omega) (hfr.of_ms (M' := fL M (held[bs[i] % held.length]'hc).1 (held[bs[i] % held.length]'hc).2 mo) rfl (Nat.le_refl _)) (by omega) hj1 h2
        exact ⟨M', l', held', xh', s', π', j', h3, loop_next h1 h4, h5⟩
end
end Go.Proofs.YtimnagafechmbaaGreatDoor.ghostsArena
