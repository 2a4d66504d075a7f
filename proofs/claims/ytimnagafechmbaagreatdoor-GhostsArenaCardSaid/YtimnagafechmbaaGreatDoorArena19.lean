/- The law, whole. Conditions: those that each theorem names, and no others. -/
import Derived.Test.YtimnagafechmbaaGreatDoorArena18
import Derived.Test.YtimnagafechmbaaGreatDoorMini3
namespace Go.Proofs.YtimnagafechmbaaGreatDoor.ghostsArena
open Go Go.Mini
/-! ### the law, whole -/
def TF (l0 : AV) (gens mo : Nat) (xh : AV) (i : Nat) (j : Nat → AV) : List AV := (TL l0 gens mo xh i j).set 4 (.bool true)
section
variable {l0 : AV} {gens mo i : Nat} {xh : AV} {j : Nat → AV}
theorem TF_names (h0 : l0.names (fun b => Nat.beq b 2) = true) (hx : xh.names (fun b => Nat.blt b 10) = true) (hj : Cl j) : namess (fun b => Nat.blt b 10) (TF l0 gens mo xh i j) = true := by
  have e0 : l0.names (fun b => Nat.blt b 10) = true := names_sub (fun b hb => by rw [Nat.eq_of_beq_eq_true hb]; rfl) h0
  unfold TF TL
  simp only [List.set, namess, e0, hx, cl_nm (hj _), Bool.true_and, Bool.and_true]
  rfl
theorem TF_slot (π : Nat → Nat) : (rens π (TF l0 gens mo xh i j))[4]? = some (.bool true) := rfl
end
theorem at_fin {M : PM} {l held : List (Int × Nat)} {xh : AV} {F2 : List AV} {s : AS} {π : Nat → Nat} {l0 : AV} {gens mo i : Nat} {j : Nat → AV} {bs : List Nat} (W : RwB l0 F2 bs) (hj : Cl j) (hI : InvL M l held xh F2 s π) :
    ∃ s' π', Sound Tryz.prog (.code (sR (sR (sR (sR (sR (sR (sR cW))))))) (rens π (TL l0 gens mo xh i j)) s) ⟨.ret, rens π' (TF l0 gens mo xh i j), s'⟩ := by
  obtain ⟨oL, oh, oe, o9, hL, hv, A⟩ := hI
  have K := kanL (M := M) hL hv W.fz
  have hx := runX_sound mixed none_sound (jz_run l0 xh gens mo i j F2 (.cells false (M.C (.map 4))) (mapO M.ms) oL oh oe o9) ⟨fun s hs => lives_all s hs, trivial⟩
  have hold : ∀ b ∈ N7, ((objAt (canF (HL M oL oh oe o9) (FL F2) 10 10) b).rw = true ∨ objAt (canF (HL M oL oh oe o9) (FL F2) 10 10) b = .dead) ∧ (objAt (canF (HL M oL oh oe o9) (FL F2) 10 10) b).names (pN 10 []) = true := by
    have fL := hL.fL (p := pN 10 []) rfl rfl
    intro b hb
    simp only [N7, List.mem_cons, List.not_mem_nil, or_false] at hb
    rcases hb with rfl | rfl | rfl | rfl | rfl | rfl | rfl
    · exact ⟨.inl rfl, rfl⟩
    · exact ⟨.inl rfl, mapO_names _ _⟩
    · exact ⟨.inl rfl, rfl⟩
    · exact ⟨.inl fL.1, fL.2⟩
    · exact ⟨.inl hL.fh.1, hL.fh.2 _⟩
    · exact ⟨.inl hL.fe.1, hL.fe.2 _⟩
    · exact ⟨.inl hv.obj.1, hv.obj.2 _⟩
  obtain ⟨s', π', hs, _⟩ := At.step (n0 := 10) (nx0 := 10) (new := []) (κ := fun b => b) (T' := TF l0 gens mo xh i j) (bs' := []) A K List.nodup_nil (fun b hb => by cases hb) (fun _ _ => rfl) (fun _ _ => rfl) trivial (fun b hb => by cases hb)
    hx (TL_names W.nm (hv.nm rfl) hj) hold (fun b hb => .inl hb) (TF_names W.nm (hv.nm rfl) hj) (by
      rw [rens_id]
      unfold TF TL
      repeat (first | exact rfl | refine ⟨_, _, rfl, ?_, ?_⟩ | exact see_same _ | exact .inl W.na | exact .inl hv.jk | exact .inl ⟨rfl, rfl⟩))
  exact ⟨s', π', hs⟩
def piJ (b : Nat) : Nat := if b = 3 then 6 else if b = 4 then 7 else if b = 5 then 9 else if b = 6 then 8 else if b = 7 then 3 else if b = 8 then 4 else if b = 9 then 5 else b
theorem piJ_lo {b : Nat} (h : b < 3) : piJ b = b := by
  unfold piJ
  rw [if_neg (by omega), if_neg (by omega), if_neg (by omega), if_neg (by omega), if_neg (by omega), if_neg (by omega), if_neg (by omega)]
theorem lo_FL {F2 : List AV} {x : Nat × List AV} (hx : x ∈ FL F2) : x.1 < 3 := by
  simp only [FL, List.mem_cons, List.not_mem_nil, or_false] at hx
  rcases hx with rfl | rfl | rfl
  · show 0 < 3; decide
  · show 1 < 3; decide
  · show 2 < 3; decide
theorem j_inv (m : PM) (F2 : List AV) : InvL m [] [] .nilSlice F2 (sJ5 F2 (.cells false (m.C (.map 7))) (mapO m.ms)) piJ := by
  refine ⟨.cells false [.nilSlice, .nilMap], ph, ph, ph, .inl ⟨rfl, rfl, rfl, rfl⟩, .inl ⟨rfl, rfl, rfl⟩, ⟨fun g hg => ?_, fun x hx => ?_, fun b hb x hx => ?_, ?_, ⟨rfl, ?_, rfl, rfl, rfl, rfl, rfl, trivial⟩, ?_⟩⟩
  · rw [glN] at hg
    exact piJ_lo (by omega)
  · simp only [FL, List.mem_cons, List.not_mem_nil, or_false] at hx
    rcases hx with rfl | rfl | rfl <;> exact ⟨true, rfl⟩
  · have h1 := lo_FL hx
    rw [piJ_lo h1]
    have : ∀ b ∈ N7, 3 ≤ piJ b := by decide
    have := this b hb
    omega
  · show ∀ b ∈ N7, ∀ c ∈ N7, piJ b = piJ c → b = c
    decide
  · show _ = some ((mapO m.ms).ren piJ)
    rw [mapO_ren]
    rfl
  · show ∀ k ∈ [9, 8, 7, 6, 5, 4, 3, 0, 1, 2], k < 10
    decide
def j0 : Nat → AV := fun _ => undefA
theorem law_call {F2 : List AV} {l0 : AV} {bs : List Nat} (W : RwB l0 F2 bs) (gens : Nat) : ∃ e s1, Sound Tryz.prog (.call 4 [l0, .int .u8 (Int.ofNat gens)] (canF [] (FL F2) 3 3)) ⟨e, [.bool true], s1⟩ := by
  have res : Tryz.f4.results.toList = [ResultVar.tmp 4] := by kernel_rfl
  suffices H : ∃ ts s1, tget ts 4 = .bool true ∧ Sound Tryz.prog (.code cW (TJ0 l0 gens) (sJ0 F2)) ⟨.ret, ts, s1⟩ by
    obtain ⟨ts, s1, ht, h⟩ := H
    refine ⟨.ret, s1, Sound.phantom (.cells false []) (Sound.phantom (.cells false []) (Sound.phantom (.cells false []) (call_whole (fn := Tryz.f4) (vs := [.bool true]) Tryz.func4 (show Tryz.f4.body = some cW by kernel_rfl) h (.inr rfl) ?_)))⟩
    rw [res]
    simp only [resultsA, resultA, ht]
  rw [cW_eq]
  have h0 := Sound.sees (ts2 := TJ1 l0 gens) (runX_sound mixed none_sound (ja_0 l0 gens 0 F2 .dead .dead) trivial) (by
    unfold TJ1
    repeat (first | exact rfl | refine ⟨_, _, rfl, ?_, ?_⟩ | exact see_same _ | exact .inl W.na | exact .inl ⟨rfl, rfl⟩))
  by_cases b1 : bs.length ≤ 60
  case neg =>
    exact ⟨_, _, rfl, seq_next h0 (seq_stop (runX_sound mixed none_sound (je_1 l0 gens bs.length F2 .dead .dead) ⟨W.len _, by rw [show decide (Int.ofNat bs.length > 60) = true from decide_eq_true (by simp only [Int.ofNat_eq_natCast]; omega)]; rfl, fun s hs => lives_all s hs, trivial⟩) (by simp))⟩
  have v1 : decide (Int.ofNat bs.length > 60) = false := decide_eq_false (by simp only [Int.ofNat_eq_natCast]; omega)
  have h1 := Sound.sees (ts2 := TJ2 l0 gens) (runX_sound mixed none_sound (ja_1 l0 gens bs.length F2 .dead .dead) ⟨W.len _, by rw [v1]; rfl, trivial⟩) (by
    unfold TJ2
    repeat (first | exact rfl | refine ⟨_, _, rfl, ?_, ?_⟩ | exact see_same _ | exact .inl W.na | exact .inl ⟨rfl, rfl⟩))
  have h2 := Sound.sees (ts2 := TJ3 l0 gens) (runX_sound mixed none_sound (ja_2 l0 gens 0 F2 (.cells false ((pM 8).C (.map 7))) (mapO (pM 8).ms)) ⟨begin_at (sJ0 F2) ⟨_, rfl⟩, trivial⟩) (by
    unfold TJ3
    repeat (first | exact rfl | refine ⟨_, _, rfl, ?_, ?_⟩ | exact see_same _ | exact .inl W.na | exact .inl ⟨rfl, rfl⟩))
  have hli := li0 (mo := gens % 4) (Nat.mod_lt _ (by omega))
  generalize pM 8 = m at *
  have h3 := Sound.sees (ts2 := TJ4 l0 gens) (runX_sound mixed none_sound (ja_3 l0 gens 0 F2 (.cells false (m.C (.map 7))) (mapO m.ms)) ⟨rfl, w_conv _ _ _ nat32 (by omega), trivial⟩) (by
    unfold TJ4
    repeat (first | exact rfl | refine ⟨_, _, rfl, ?_, ?_⟩ | exact see_same _ | exact .inl W.na | exact .inl ⟨rfl, rfl⟩))
  have h4 := Sound.sees (ts2 := TJ5 l0 gens) (runX_sound mixed none_sound (ja_4 l0 gens 0 F2 (.cells false (m.C (.map 7))) (mapO m.ms)) trivial) (by
    unfold TJ5
    repeat (first | exact rfl | refine ⟨_, _, rfl, ?_, ?_⟩ | exact see_same _ | exact .inl W.na | exact .inl ⟨rfl, rfl⟩))
  have h5 := Sound.sees (ts2 := TJ6 l0 gens) (runX_sound mixed none_sound (ja_5 l0 gens 0 F2 (.cells false (m.C (.map 7))) (mapO m.ms)) trivial) (by
    unfold TJ6
    repeat (first | exact rfl | refine ⟨_, _, rfl, ?_, ?_⟩ | exact see_same _ | exact .inl W.na | exact .inl ⟨rfl, rfl⟩))
  have h6 := Sound.sees (ts2 := rens piJ (TL l0 gens (gens % 4) .nilSlice 0 j0)) (runX_sound mixed none_sound (ja_6 l0 gens 0 F2 (.cells false (m.C (.map 7))) (mapO m.ms)) trivial) (by
    have e0 : l0.ren piJ = l0 := W.lren rfl
    show seesT _ _ (l0.ren piJ :: rens piJ ((TL l0 gens (gens % 4) .nilSlice 0 j0).drop 1)) _
    rw [e0]
    repeat (first | exact rfl | refine ⟨_, _, rfl, ?_, ?_⟩ | exact see_same _ | exact .inl W.na | exact .inl ⟨rfl, rfl⟩))
  obtain ⟨M', l', held', xh', s', π', j', hj', hL, hI'⟩ := law_loop (gens := gens) (mo := gens % 4) W b1 bs.length 0 m [] [] _ .nilSlice _ piJ j0 (by omega) (by omega) hli (Nat.le_refl _) (fun _ => rfl) (j_inv m F2)
  obtain ⟨s2, π2, h7⟩ := at_fin (gens := gens) (mo := gens % 4) (i := bs.length) W hj' hI'
  refine ⟨_, _, ?_, seq_next h0 (seq_next h1 (seq_next h2 (seq_next h3 (seq_next h4 (seq_next h5 (seq_next (seq_next h6 (block_exit hL rfl)) h7))))))⟩
  show ((rens π2 (TF l0 gens (gens % 4) xh' bs.length j'))[4]?).getD undefA = _
  rw [TF_slot]
  rfl
/-! ### the law, for all arguments -/
theorem uBs : Tryz.prog.underlying 22 = some (.slice 5) := by kernel_rfl
theorem zBy : sizeA Tryz.prog 5 = some 1 := by kernel_rfl
theorem law_place {F2 : List AV} {l0 : AV} {bs : List Nat} (W : RwB l0 F2 bs) (gens : Nat) (s : AS) (hF : ∀ x ∈ FL F2, ∃ ro, s.get x.1 = some (.cells ro x.2)) :
    ∃ e s1, Sound Tryz.prog (.call 4 [l0, .int .u8 (Int.ofNat gens)] s) ⟨e, [.bool true], s1⟩ := by
  obtain ⟨e, s1, h⟩ := law_call W gens
  have hp := Sound.putFG (bs0 := []) (Fz := FL F2) h (fun b => b) (fun g hg => ⟨by rw [glN] at hg; omega, rfl⟩) [] s (fun x hx => ⟨lo_FL hx, by simp, ?_, hF x hx, fun b hb => by cases hb⟩) trivial (fun _ hb => by cases hb) List.nodup_nil List.nodup_nil (fun b hb => by cases hb) ?_ rfl
  · rw [rens_id] at hp
    exact ⟨_, _, hp⟩
  · simp only [FL, List.mem_cons, List.not_mem_nil, or_false] at hx
    rcases hx with rfl | rfl | rfl
    · rfl
    · rfl
    · exact W.fz
  · show (l0.names _ && true) = true
    rw [W.lnm rfl]
    rfl
theorem rb_nil : RwB .nilSlice [] [] := ⟨rfl, ⟨rfl, rfl⟩, fun s => by simp only [lenA, uBs]; rfl, fun i hi => absurd hi (Nat.not_lt_zero i), ⟨[], rfl⟩, fun x hx => by cases hx⟩
theorem rb_sl (L : List Nat) (hL : ∀ x ∈ L, x < 256) (len c : Nat) (h : len ≤ L.length) : RwB (.slice 2 0 len c) (L.map fun n => AV.int .u8 (Int.ofNat n)) (L.take len) := by
  have hlen : (L.take len).length = len := by simp; omega
  refine ⟨rfl, ⟨rfl, rfl⟩, fun s => ?_, fun i hi => ?_, ⟨L.drop len, by rw [List.take_append_drop]⟩, fun x hx => hL x (List.mem_of_mem_take hx)⟩
  · rw [hlen]
    simp only [lenA, uBs]
    rfl
  · rw [hlen] at hi
    rw [idx_slice (o := 0) uBs zBy hi, Nat.zero_add, Nat.mul_one]
theorem rows_by : ∀ (rows : List (List SD)), Tyss rows [.int .u8] → ∃ L : List Nat, (∀ s : AS, absRows rows s = (L.map fun n => AV.int .u8 (Int.ofNat n), s)) ∧ L.length = rows.length ∧ ∀ x ∈ L, x < 256
  | [], _ => ⟨[], fun _ => rfl, rfl, fun x hx => by cases hx⟩
  | r :: rs, h => by
    obtain ⟨h1, h2⟩ := h
    obtain ⟨L, e1, e2, e3⟩ := rows_by rs h2
    match r, h1 with
    | [x0], ⟨k0, _⟩ =>
      cases x0 <;> simp only [Ty] at k0
      obtain ⟨rfl, w0⟩ := k0
      rename_i n0
      have c0 := bounds_u8 w0
      obtain ⟨m0, rfl⟩ : ∃ t : Nat, n0 = Int.ofNat t := ⟨n0.toNat, by simp only [Int.ofNat_eq_natCast]; omega⟩
      refine ⟨m0 :: L, fun s => ?_, by simp [e2], fun x hx => ?_⟩
      · show ((absCs [.i .u8 (Int.ofNat m0)] s).1 ++ (absRows rs (absCs [.i .u8 (Int.ofNat m0)] s).2).1, (absRows rs (absCs [.i .u8 (Int.ofNat m0)] s).2).2) = _
        have e4 : absCs [.i .u8 (Int.ofNat m0)] s = ([.int .u8 (Int.ofNat m0)], s) := rfl
        rw [e4]
        simp only [e1]
        rfl
      · rcases List.mem_cons.1 hx with rfl | hx
        · have := c0.2
          simp only [Int.ofNat_eq_natCast] at this
          omega
        · exact e3 x hx
def jpks : List Pk := [⟨false, [.sl [.int .u8]]⟩, ⟨false, [.int .u8]⟩]
theorem st_eq : startS Tryz.prog G2 = ⟨⟨[(0, .cells true wf), (1, .cells true lf)], 2, none, []⟩, 2⟩ := by
  show (⟨⟨_, _, none, []⟩, Tryz.prog.globals.size⟩ : AS) = _
  rw [glN]
  rfl
theorem j_main (xs : List (Bool × List SD)) (h : Fits xs jpks) : ∃ e s1, Sound Tryz.prog (.call 4 (absArgs xs (startS Tryz.prog G2)).1 (absArgs xs (startS Tryz.prog G2)).2) ⟨e, [.bool true], s1⟩ := by
  match xs, h with
  | [(b1, [u1]), (b2, [u2])], ⟨g1, ⟨k1, _⟩, g2, ⟨k2, _⟩, _⟩ =>
    simp only at g1 g2 k1 k2
    subst g1 g2
    rw [st_eq]
    cases u2 <;> simp only [Ty] at k2
    obtain ⟨rfl, w2⟩ := k2
    rename_i m2
    have b2 := bounds_u8 w2
    obtain ⟨gens, rfl⟩ : ∃ t : Nat, m2 = Int.ofNat t := ⟨m2.toNat, by simp only [Int.ofNat_eq_natCast]; omega⟩
    cases u1 with
    | nil =>
      obtain ⟨e, s1, hs⟩ := law_place rb_nil gens ⟨⟨[(2, .cells true []), (0, .cells true wf), (1, .cells true lf)], 3, none, []⟩, 3⟩ (fun x hx => by
        simp only [FL, List.mem_cons, List.not_mem_nil, or_false] at hx
        rcases hx with rfl | rfl | rfl <;> exact ⟨true, rfl⟩)
      exact ⟨e, s1, Sound.phantom (.cells true []) hs⟩
    | sl rows len =>
      simp only [Ty] at k1
      obtain ⟨l1, l2, l3⟩ := k1
      obtain ⟨B, e1, e2, e3⟩ := rows_by rows l3
      have e5 : absArgs [(false, [.sl rows len]), (false, [.i .u8 (Int.ofNat gens)])] ⟨⟨[(0, .cells true wf), (1, .cells true lf)], 2, none, []⟩, 2⟩ = ([.slice 2 0 len rows.length, .int .u8 (Int.ofNat gens)], ⟨⟨[(2, .cells true (B.map fun n => AV.int .u8 (Int.ofNat n))), (0, .cells true wf), (1, .cells true lf)], 3, none, []⟩, 3⟩) := by
        simp only [absArgs, absCs, absC, e1]
        rfl
      rw [e5]
      exact law_place (rb_sl B e3 len rows.length (by omega)) gens _ (fun x hx => by
        simp only [FL, List.mem_cons, List.not_mem_nil, or_false] at hx
        rcases hx with rfl | rfl | rfl <;> exact ⟨true, rfl⟩)
    | _ => simp only [Ty] at k1
end Go.Proofs.YtimnagafechmbaaGreatDoor.ghostsArena
