/- The beginning of the law. Conditions: those that each theorem names, and no others. -/
import Derived.Test.YtimnagafechmbaaGreatDoorOrph11
import Derived.Test.YtimnagafechmbaaGreatDoorOrph12
namespace Go.Proofs.YtimnagafechmbaaGreatDoor.scansOrphans
open Go Go.Mini Go.Mini.Fast
/-! ### begin, Made, give, wherever they are called; a hook that knows them -/
theorem give0_run : R0 10 [.ptr 4 0, .nilSlice] (hM (MI 0)) 6 (fun v h _ => AV.beqs [v] [.tuple []] && memB (fun b => (acB b).get h) 4 5 (MG 0)) = true := by kernel_rfl
theorem begin21_at (s : AS) (hs : ∃ ro, s.get 0 = some (.cells ro wf)) : Sound Tryz.prog (.call 6 [phA] s) ⟨.ret, [.tuple [.ptr s.nx 0, .bool true]], (s.push (.cells false ((MI 0).C (.map (s.nx + 1))))).push (mapO (MI 0).ms)⟩ := by
  obtain ⟨v, h', n', s1, h, HR', hk⟩ := R0_ok 6 [phA] hp0 2 kB0 begin_run (canF [] [(0, wf)] 1 2) (hp_ok rfl rfl)
  unfold kB0 at hk
  split at hk
  case h_2 => cases hk
  rename_i b
  split at hk
  case h_2 => cases hk
  rename_i bm _ _
  simp only [Bool.and_eq_true, Bool.not_eq_true'] at hk
  obtain ⟨k1, k2, k3, k4⟩ := hk
  obtain ⟨m1, m2⟩ := memB_t k1
  have hb : 1 < b := Nat.blt_eq ▸ k2
  have hbm : 1 < bm := Nat.blt_eq ▸ k3
  have hne : b ≠ bm := fun e => by rw [e, Nat.beq_refl] at k4; cases k4
  have g1 := HR'.get _ _ m1
  have g2 := HR'.get _ _ m2
  generalize MI 0 = m at *
  have e3 : objAt s1 b = .cells false (m.C (.map bm)) := by simp [objAt, g1]
  have e2 : objAt s1 bm = mapO m.ms := by simp [objAt, g2]
  have pb : ∀ n, pR 2 [b, bm] (fun x => x) n b = n := fun n => by
    unfold pR
    rw [if_neg (by omega)]
    simp
  have pbm : ∀ n, pR 2 [b, bm] (fun x => x) n bm = n + 1 := fun n => by
    unfold pR
    rw [if_neg (by omega)]
    simp only [List.idxOf_cons, beq_self_eq_true, show (b == bm) = false from beq_false_of_ne hne, _root_.cond_false, _root_.cond_true]
    try rfl
  have inb : ∀ x, x = b ∨ x = bm → pN 2 [b, bm] x = true := fun x hx => by
    unfold pN
    rcases hx with rfl | rfl <;> simp
  have hp := Sound.putFG (P := Tryz.prog) (f := 6) (bs0 := []) (Fz := [(0, wf)]) (n0 := 1) (nx0 := 2) h (fun b => b) (fun g hg => ⟨by rw [glN] at hg; omega, rfl⟩) [b, bm] s
    (fun x hx => by
      simp only [List.mem_cons, List.not_mem_nil, or_false] at hx
      subst hx
      exact ⟨by decide, by simp, rfl, hs, fun b hb => by cases hb⟩) trivial (fun _ hb => by cases hb) List.nodup_nil (by simp [hne])
    (fun x hx => by
      simp only [List.mem_cons, List.not_mem_nil, or_false] at hx
      rcases hx with rfl | rfl
      · rw [e3]
        refine ⟨by omega, rfl, ?_⟩
        show (pN 2 [x, bm] bm && true) = true
        rw [inb bm (.inr rfl)]
        rfl
      · rw [e2]
        exact ⟨by omega, rfl, mapO_names _ _⟩) rfl (by
        show ((pN 2 [b, bm] b && (true && true))) = true
        rw [inb b (.inl rfl)]
        rfl)
  simp only [List.map_nil, List.map_cons, setL, pushL, e3, e2, mapO_ren] at hp
  have r1 : (AV.tuple [.ptr b 0, .bool true]).ren (pR 2 [b, bm] (fun x => x) s.nx) = .tuple [.ptr s.nx 0, .bool true] := by
    show AV.tuple [.ptr (pR 2 [b, bm] (fun x => x) s.nx b) 0, .bool true] = _
    rw [pb]
  have r2 : (AObj.cells false (m.C (.map bm))).ren (pR 2 [b, bm] (fun x => x) s.nx) = .cells false (m.C (.map (s.nx + 1))) := by
    show AObj.cells false (m.C (.map (pR 2 [b, bm] (fun x => x) s.nx bm))) = _
    rw [pbm]
  rw [r1, r2] at hp
  exact hp
theorem p45i {b bm : Nat} (h : b ≠ bm) : ∀ x ∈ [4, 5], ∀ y ∈ [4, 5], p45 b bm x = p45 b bm y → x = y := by
  intro x hx y hy e
  simp only [List.mem_cons, List.not_mem_nil, or_false] at hx hy
  rcases hx with rfl | rfl <;> rcases hy with rfl | rfl <;> simp [p45] at e ⊢ <;> first | exact absurd e h | exact absurd e.symm h
theorem turns45 {f : FuncId} {args : List AV} {v : AV} {M M2 : PM} {s1 : AS} {e : AExit} (h : Sound Tryz.prog (.call f args (canF [(4, .cells false (M.C (.map 5))), (5, mapO M.ms)] [(0, wf)] 3 6)) ⟨e, [v], s1⟩) (g4 : s1.get 4 = some (.cells false (M2.C (.map 5)))) (g5 : s1.get 5 = some (mapO M2.ms))
    (ha : namess (fun b => Nat.blt b 6) args = true) (hv : v.names (fun _ => false) = true) {s : AS} {b bm : Nat} (hb : s.get b = some (.cells false (M.C (.map bm)))) (hm : s.get bm = some (mapO M.ms)) (h0 : ∃ ro, s.get 0 = some (.cells ro wf)) (hne : b ≠ bm) (b0 : b ≠ 0) (bm0 : bm ≠ 0) :
    Sound Tryz.prog (.call f (rens (p45 b bm) args) s) ⟨.ret, [v], (s.set b (.cells false (M2.C (.map bm)))).set bm (mapO M2.ms)⟩ := by
  have e4 : objAt s1 4 = .cells false (M2.C (.map 5)) := by simp [objAt, g4]
  have e5 : objAt s1 5 = mapO M2.ms := by simp [objAt, g5]
  have hp := Sound.putFG (P := Tryz.prog) (f := f) (Fz := [(0, wf)]) (n0 := 3) (nx0 := 6) h (p45 b bm) (fun g hg => ⟨by rw [glN] at hg; omega, by
      rw [glN] at hg
      unfold p45
      rw [if_neg (by omega), if_neg (by omega)]⟩) [] s
    (fun x hx => by
      simp only [List.mem_cons, List.not_mem_nil, or_false] at hx
      subst hx
      refine ⟨show 0 < 6 by decide, show 0 ∉ [4, 5] by decide, rfl, h0, fun c hc => ?_⟩
      have hc : c ∈ [4, 5] := hc
      simp only [List.mem_cons, List.not_mem_nil, or_false] at hc
      rcases hc with rfl | rfl
      · exact b0
      · exact bm0)
    ⟨⟨show 4 < 6 by decide, rfl, rfl, rfl, hb, by rw [e4]; exact .inl rfl, by rw [e4]; rfl⟩, ⟨show 5 < 6 by decide, rfl, mapO_names _ _, rfl, by rw [mapO_ren]; exact hm, by rw [e5]; exact .inl rfl, by rw [e5]; exact mapO_names _ _⟩, trivial⟩
    (p45i hne) (show [4, 5].Nodup by decide) List.nodup_nil (fun _ h => by cases h) ha (names_sub (fun _ h => by cases h) hv)
  have ev : ∀ π : Nat → Nat, v.ren π = v := fun π => by rw [ren_congr (p := fun _ => false) (π' := fun b => b) (fun _ h => by cases h) hv, ren_id]
  rw [ev] at hp
  simp only [List.map_nil, List.map_cons, setL, pushL, e4, e5, mapO_ren] at hp
  exact hp
theorem made_at {i : Nat} (hi : i < 8) {s : AS} {b bm : Nat} (hb : s.get b = some (.cells false ((MI i).C (.map bm)))) (hm : s.get bm = some (mapO (MI i).ms)) (h0 : ∃ ro, s.get 0 = some (.cells ro wf)) (hne : b ≠ bm) (b0 : b ≠ 0) (bm0 : bm ≠ 0) :
    Sound Tryz.prog (.call 7 [.ptr b 0] s) ⟨.ret, [vM i], (s.set b (.cells false ((MU i).C (.map bm)))).set bm (mapO (MU i).ms)⟩ := by
  obtain ⟨v, h', n', s1, h, HR', hk⟩ := R0_ok 7 [.ptr 4 0] (hM (MI i)) 6 (kM i) (made_run i hi) (canF [(4, .cells false ((MI i).C (.map 5))), (5, mapO (MI i).ms)] [(0, wf)] 3 6) (hM_ok rfl rfl rfl rfl)
  simp only [kM, Bool.and_eq_true] at hk
  have ev : [v] = [vM i] := AV.beqs_eq hk.1
  simp only [List.cons.injEq, and_true] at ev
  subst ev
  obtain ⟨m1, m2⟩ := memB_t hk.2
  exact turns45 h (HR'.get _ _ m1) (HR'.get _ _ m2) rfl rfl hb hm h0 hne b0 bm0
theorem give0_at {s : AS} {b bm : Nat} (hb : s.get b = some (.cells false ((MI 0).C (.map bm)))) (hm : s.get bm = some (mapO (MI 0).ms)) (h0 : ∃ ro, s.get 0 = some (.cells ro wf)) (hne : b ≠ bm) (b0 : b ≠ 0) (bm0 : bm ≠ 0) :
    Sound Tryz.prog (.call 10 [.ptr b 0, .nilSlice] s) ⟨.ret, [.tuple []], (s.set b (.cells false ((MG 0).C (.map bm)))).set bm (mapO (MG 0).ms)⟩ := by
  obtain ⟨v, h', n', s1, h, HR', hk⟩ := R0_ok 10 [.ptr 4 0, .nilSlice] (hM (MI 0)) 6 _ give0_run (canF [(4, .cells false ((MI 0).C (.map 5))), (5, mapO (MI 0).ms)] [(0, wf)] 3 6) (hM_ok rfl rfl rfl rfl)
  simp only [Bool.and_eq_true] at hk
  have ev : [v] = [.tuple []] := AV.beqs_eq hk.1
  simp only [List.cons.injEq, and_true] at ev
  subst ev
  obtain ⟨m1, m2⟩ := memB_t hk.2
  exact turns45 h (HR'.get _ _ m1) (HR'.get _ _ m2) rfl rfl hb hm h0 hne b0 bm0
theorem hG_ok {s : AS} {M : PM} {n k : Nat} (hn : s.nx = n) (h0 : s.get 0 = some (.cells true wf)) (h4 : s.get 4 = some (.cells false (M.C (.map 5)))) (h5 : s.get 5 = some (mapO M.ms)) (h6 : s.get 6 = some (.cells false (ents k))) : HR (hG M k) n s := HR.lay (hM_ok hn h0 h4 h5) (by decide) h6
def p456 (b c d x : Nat) : Nat := if x = 4 then b else if x = 5 then c else if x = 6 then d else x
theorem give_at {n : Nat} (hn : n < 8) {s : AS} {b bm eb : Nat} (hb : s.get b = some (.cells false ((MI (n + 1)).C (.map bm)))) (hm : s.get bm = some (mapO (MI (n + 1)).ms)) (he : s.get eb = some (.cells false (ents (n + 1)))) (h0 : ∃ ro, s.get 0 = some (.cells ro wf)) (hne : b ≠ bm) (b0 : b ≠ 0) (bm0 : bm ≠ 0) (eb0 : eb ≠ 0) (hne2 : eb ≠ b) (hne3 : eb ≠ bm) :
    Sound Tryz.prog (.call 10 [.ptr b 0, .osl eb 0 (n + 1) 6] s) ⟨.ret, [.tuple []], ((s.set b (.cells false ((MG (n + 1)).C (.map bm)))).set bm (mapO (MG (n + 1)).ms)).set eb (.cells false (ents (n + 1)))⟩ := by
  obtain ⟨v, h', n', s1, h, HR', hk⟩ := R0_ok 10 [.ptr 4 0, enV 6 (n + 1)] (hG (MI (n + 1)) (n + 1)) 7 _ (give_run (n + 1) (by omega)) (canF [(4, .cells false ((MI (n + 1)).C (.map 5))), (5, mapO (MI (n + 1)).ms), (6, .cells false (ents (n + 1)))] [(0, wf)] 4 7) (hG_ok rfl rfl rfl rfl rfl)
  simp only [kGv, kG, Bool.and_eq_true] at hk
  have ev : [v] = [.tuple []] := AV.beqs_eq hk.1
  simp only [List.cons.injEq, and_true] at ev
  subst ev
  obtain ⟨m1, m2⟩ := memB_t hk.2.1
  have m3 := cellsB_t hk.2.2
  have e4 : objAt s1 4 = .cells false ((MG (n + 1)).C (.map 5)) := by simp [objAt, HR'.get _ _ m1]
  have e5 : objAt s1 5 = mapO (MG (n + 1)).ms := by simp [objAt, HR'.get _ _ m2]
  have e6 : objAt s1 6 = .cells false (ents (n + 1)) := by simp [objAt, HR'.get _ _ m3]
  have hp := Sound.putFG (P := Tryz.prog) (f := 10) (Fz := [(0, wf)]) (n0 := 4) (nx0 := 7) h (p456 b bm eb) (fun g hg => ⟨by rw [glN] at hg; omega, by
      rw [glN] at hg
      unfold p456
      rw [if_neg (by omega), if_neg (by omega), if_neg (by omega)]⟩) [] s
    (fun x hx => by
      simp only [List.mem_cons, List.not_mem_nil, or_false] at hx
      subst hx
      refine ⟨show 0 < 7 by decide, show 0 ∉ [4, 5, 6] by decide, rfl, h0, fun c hc => ?_⟩
      have hc : c ∈ [4, 5, 6] := hc
      simp only [List.mem_cons, List.not_mem_nil, or_false] at hc
      rcases hc with rfl | rfl | rfl
      · exact b0
      · exact bm0
      · exact eb0)
    ⟨⟨show 4 < 7 by decide, rfl, rfl, rfl, hb, by rw [e4]; exact .inl rfl, by rw [e4]; rfl⟩, ⟨show 5 < 7 by decide, rfl, mapO_names _ _, rfl, by rw [mapO_ren]; exact hm, by rw [e5]; exact .inl rfl, by rw [e5]; exact mapO_names _ _⟩, ⟨show 6 < 7 by decide, rfl, ents_names _ _, rfl, by show _ = some (AObj.cells false (rens _ _)); rw [ents_ren]; exact he, by rw [e6]; exact .inl rfl, by rw [e6]; exact ents_names _ _⟩, trivial⟩
    (by
      intro x hx y hy e
      have hx : x ∈ [4, 5, 6] := hx
      have hy : y ∈ [4, 5, 6] := hy
      simp only [List.mem_cons, List.not_mem_nil, or_false] at hx hy
      rcases hx with rfl | rfl | rfl <;> rcases hy with rfl | rfl | rfl <;> simp [p456] at e ⊢ <;> first | exact absurd e hne | exact absurd e.symm hne | exact absurd e hne2 | exact absurd e.symm hne2 | exact absurd e hne3 | exact absurd e.symm hne3) (show [4, 5, 6].Nodup by decide) List.nodup_nil (fun _ h => by cases h) rfl rfl
  simp only [List.map_nil, List.map_cons, setL, pushL, e4, e5, e6, mapO_ren] at hp
  have er : ∀ π : Nat → Nat, (AObj.cells false (ents (n + 1))).ren π = .cells false (ents (n + 1)) := fun π => by
    show AObj.cells false (rens π _) = _
    rw [ents_ren]
  rw [er] at hp
  exact hp
/-- The three, as a hook of runs. -/
def wfB (s : AS) : Bool := match s.get 0 with
  | some (.cells _ cs) => AV.beqs cs wf
  | _ => false
theorem wfB_t {s : AS} (h : wfB s = true) : ∃ ro, s.get 0 = some (.cells ro wf) := by
  unfold wfB at h
  split at h
  · rename_i ro cs hs
    exact ⟨ro, by rw [hs, AV.beqs_eq h]⟩
  · cases h
def bmOf (s : AS) (b : Nat) : Nat := match s.get b with
  | some (.cells _ (.map bm :: _)) => bm
  | _ => 0
def atB (s : AS) (b : Nat) (M : PM) : Bool := memB s.get b (bmOf s b) M && (wfB s && (!Nat.beq b (bmOf s b) && (!Nat.beq b 0 && !Nat.beq (bmOf s b) 0)))
theorem atB_t {s : AS} {b : Nat} {M : PM} (h : atB s b M = true) : s.get b = some (.cells false (M.C (.map (bmOf s b)))) ∧ s.get (bmOf s b) = some (mapO M.ms) ∧ (∃ ro, s.get 0 = some (.cells ro wf)) ∧ b ≠ bmOf s b ∧ b ≠ 0 ∧ bmOf s b ≠ 0 := by
  simp only [atB, Bool.and_eq_true, Bool.not_eq_true'] at h
  obtain ⟨h1, h2, h3, h4, h5⟩ := h
  obtain ⟨m1, m2⟩ := memB_t h1
  have ne : ∀ {x y : Nat}, Nat.beq x y = false → x ≠ y := fun e1 e2 => by rw [e2, Nat.beq_refl] at e1; cases e1
  exact ⟨m1, m2, wfB_t h2, ne h3, ne h4, ne h5⟩
def findI : Nat → (Nat → Bool) → Option Nat
  | 0, _ => none
  | k + 1, p => if p k then some k else findI k p
theorem findI_t {p : Nat → Bool} {i : Nat} : ∀ {k}, findI k p = some i → i < k ∧ p i = true
  | 0, h => by cases h
  | k + 1, h => by
    simp only [findI] at h
    split at h
    · simp only [Option.some.injEq] at h
      subst h
      exact ⟨by omega, by assumption⟩
    · have := findI_t h
      exact ⟨by omega, this.2⟩
def hk21 : Task → Option Res
  | .call g args s =>
    if Nat.beq g 6 then (if AV.beqs args [phA] && wfB s then some ⟨.ret, [.tuple [.ptr s.nx 0, .bool true]], (s.push (.cells false ((MI 0).C (.map (s.nx + 1))))).push (mapO (MI 0).ms)⟩ else none)
    else if Nat.beq g 7 then (match args with
      | [.ptr b 0] => (match findI 8 (fun i => atB s b (MI i)) with
        | some i => some ⟨.ret, [vM i], (s.set b (.cells false ((MU i).C (.map (bmOf s b))))).set (bmOf s b) (mapO (MU i).ms)⟩
        | none => none)
      | _ => none)
    else if Nat.beq g 10 then (match args with
      | [.ptr b 0, .nilSlice] => if atB s b (MI 0) then some ⟨.ret, [.tuple []], (s.set b (.cells false ((MG 0).C (.map (bmOf s b))))).set (bmOf s b) (mapO (MG 0).ms)⟩ else none
      | [.ptr b 0, .osl eb 0 (n + 1) 6] => if Nat.blt n 8 && (atB s b (MI (n + 1)) && (cellsB (s.get eb) (ents (n + 1)) && (!Nat.beq eb 0 && (!Nat.beq eb b && !Nat.beq eb (bmOf s b))))) then
          some ⟨.ret, [.tuple []], ((s.set b (.cells false ((MG (n + 1)).C (.map (bmOf s b))))).set (bmOf s b) (mapO (MG (n + 1)).ms)).set eb (.cells false (ents (n + 1)))⟩ else none
      | _ => none)
    else none
  | _ => none
theorem hk21_ok : ∀ t r, hk21 t = some r → Sound Tryz.prog t r := by
  intro t r h
  unfold hk21 at h
  split at h
  case h_2 => cases h
  rename_i g args s
  split at h
  · rename_i hg
    have := Nat.eq_of_beq_eq_true hg
    subst this
    split at h
    · rename_i hc
      simp only [Bool.and_eq_true] at hc
      simp only [Option.some.injEq] at h
      subst h
      rw [AV.beqs_eq hc.1]
      exact begin21_at s (wfB_t hc.2)
    · cases h
  split at h
  · rename_i hg
    have := Nat.eq_of_beq_eq_true hg
    subst this
    split at h
    case h_2 => cases h
    split at h
    case h_2 => cases h
    rename_i i hi
    simp only [Option.some.injEq] at h
    subst h
    obtain ⟨h1, h2⟩ := findI_t hi
    obtain ⟨a1, a2, a3, a4, a5, a6⟩ := atB_t h2
    exact made_at h1 a1 a2 a3 a4 a5 a6
  split at h
  · rename_i hg
    have := Nat.eq_of_beq_eq_true hg
    subst this
    split at h
    · split at h
      · rename_i hc
        simp only [Option.some.injEq] at h
        subst h
        obtain ⟨a1, a2, a3, a4, a5, a6⟩ := atB_t hc
        exact give0_at a1 a2 a3 a4 a5 a6
      · cases h
    · split at h
      · rename_i hc
        simp only [Bool.and_eq_true, Bool.not_eq_true'] at hc
        obtain ⟨c1, c2, c3, c4, c5, c6⟩ := hc
        simp only [Option.some.injEq] at h
        subst h
        obtain ⟨a1, a2, a3, a4, a5, a6⟩ := atB_t c2
        have ne : ∀ {x y : Nat}, Nat.beq x y = false → x ≠ y := fun e1 e2 => by rw [e2, Nat.beq_refl] at e1; cases e1
        exact give_at (Nat.blt_eq ▸ c1) a1 a2 (cellsB_t c3) a3 a4 a5 a6 (ne c4) (ne c5) (ne c6)
      · cases h
    · cases h
  · cases h
end Go.Proofs.YtimnagafechmbaaGreatDoor.scansOrphans
namespace Go.Proofs.YtimnagafechmbaaGreatDoor.scansOrphans
open Go Go.Mini Go.Mini.Fast
/-! ### the law's beginning, up to its main loop -/
def pcS : Nat → Code → Code
  | 0, .seq a _ => a
  | k + 1, .seq _ b => pcS k b
  | _, c => c
def dropS : Nat → Code → Code
  | 0, c => c
  | k + 1, .seq _ b => dropS k b
  | _, c => c
noncomputable def lawC : Code := match Tryz.f3.body with
  | some c => c
  | none => .skip
theorem law_body : Tryz.f3.body = some lawC := by kernel_rfl
def runPs (P : Program) (hk : Task → Option Res) (n f : Nat) : List Code → List AV → AS → List Dec → Option (Res × List Dec × List Qst)
  | [], ts, s, ds => some (⟨.normal, ts, s⟩, ds, [])
  | c :: l, ts, s, ds => match runX P hk n f (.code c ts s) ds with
    | some (⟨.normal, ts', s'⟩, ds', q) => match runPs P hk n f l ts' s' ds' with
      | some (r, ds'', q') => some (r, ds'', q ++ q')
      | none => none
    | _ => none
def seqs : List Code → Code → Code
  | [], r => r
  | c :: l, r => .seq c (seqs l r)
theorem runPs_ok {P : Program} {hk : Task → Option Res} (hm : P.follows .mixedOrders = true) (hh : ∀ t r, hk t = some r → Sound P t r) {n f : Nat} : ∀ (cs : List Code) (ts : List AV) (s : AS) (ds : List Dec) (e : AExit) (ts1 : List AV) (s1 : AS) (ds1 : List Dec) (q : List Qst), runPs P hk n f cs ts s ds = some (⟨e, ts1, s1⟩, ds1, q) → Qsts P q → ∀ c r, Sound P (.code c ts1 s1) r → Sound P (.code (seqs cs c) ts s) r
  | [], ts, s, ds, e, ts1, s1, ds1, q, h, hq, c, r, hc => by
    simp only [runPs, Option.some.injEq, Prod.mk.injEq, Res.mk.injEq] at h
    obtain ⟨⟨_, rfl, rfl⟩, _, _⟩ := h
    exact hc
  | x :: l, ts, s, ds, e, ts1, s1, ds1, q, h, hq, c, r, hc => by
    simp only [runPs] at h
    split at h
    case h_2 => cases h
    rename_i ts' s' ds' q' h1
    split at h
    case h_2 => cases h
    rename_i r2 ds'' q2 h2
    simp only [Option.some.injEq, Prod.mk.injEq] at h
    obtain ⟨rfl, rfl, rfl⟩ := h
    rw [qsts_app] at hq
    exact seq_next (runX_sound hm hh h1 hq.1) (runPs_ok hm hh l _ _ _ _ _ _ _ _ h2 hq.2 c r hc)
noncomputable def ps : List Code := [pcS 0 lawC, pcS 1 lawC, pcS 2 lawC, pcS 3 lawC, pcS 4 lawC, pcS 5 lawC, pcS 6 lawC, pcS 7 lawC, pcS 8 lawC]
noncomputable def cR20 : Code := pcS 0 (pcS 9 lawC)
noncomputable def cRest : Code := dropS 10 lawC
theorem law_eq : lawC = seqs ps (.seq (.seq cR20 (.block 4 (.loop (loopAt Tryz.prog 3 2)))) cRest) := by kernel_rfl
def sL (F : List AV) : AS := ⟨⟨[(2, .cells true F), (0, .cells true wf)], 2, none, []⟩, 3⟩
def T0 (mb : Nat) (l0 : AV) : List AV := [.int .u8 (Int.ofNat mb), l0] ++ List.replicate 140 undefA
def twN : Nat → Nat
  | 0 => 5
  | n + 1 => 10 * n + 15
def enN : Nat → AV
  | 0 => .nilSlice
  | n + 1 => .osl (10 * n + 7) 0 (n + 1) 6
def guardX (th x : Nat) : AObj := .cells false [.bool false, .int .u8 (Int.ofNat 0), .int .u64 (Int.ofNat 0), .int .u64 (Int.ofNat 0), .int .u64 (Int.ofNat 0), .int .u64 (Int.ofNat 0), .bool true, .int .i64 (Int.ofNat th), .ptr x 0]
def tabE : Nat → List (Nat × AObj)
  | 0 => []
  | n + 1 => [(10 * n + 7, .cells false (ents (n + 1)))]
def tab (n : Nat) (F : List AV) : List (Nat × AObj) := [(2, .cells true F), (0, .cells true wf), (3, .cells false ((MG n).C (.map 4))), (4, mapO (MG n).ms), (twN n, .cells false [.ptr (twN n + 2) 0, .ptr (twN n + 3) 0, .nilPtr, .ptr (twN n + 5) 0, .ptr (twN n + 6) 0, .nilPtr]), (twN n + 1, listO 0), (twN n + 2, guardX 0 (twN n + 1)), (twN n + 3, takeO 1 0 0 0 .nilSlice), (twN n + 4, listO 0), (twN n + 5, guardX 1 (twN n + 4)), (twN n + 6, takeO 1 0 0 0 .nilSlice)] ++ tabE n
noncomputable def preR (mb ln : Nat) (l0 : AV) (F : List AV) (n : Nat) : Option (Res × List Dec × List Qst) := runPs Tryz.prog hk21 400 3 ps (T0 mb l0) (sL F) [.val 3 1 1 (.int .i64 (Int.ofNat ln)), .val 3 1 2 (.bool false), .val 3 4 1 (.int .u8 (Int.ofNat n))]
def preQ (mb ln : Nat) (l0 : AV) (F : List AV) (n : Nat) : List Qst := [.ln 22 (sL F) l0 (.int .i64 (Int.ofNat ln)), .val (some (.bool (decide (Int.ofNat ln > 500)))) (.bool false), .val (some (.int .u8 (Int.ofNat (mb % 9)))) (.int .u8 (Int.ofNat n))]
def preT (mb : Nat) (l0 : AV) (n : Nat) : List (Option AV) := [some (.int .u8 (Int.ofNat mb)), some l0, some (.bool false), some (.ptr 3 0), some (.int .i64 (Int.ofNat n)), some (enN n), some (.ptr (twN n) 0), some l0]
theorem pre_run (mb ln : Nat) (l0 : AV) (F : List AV) : ∀ n, n < 9 → (preR mb ln l0 F n).map (fun x => ((x.1.ts.length, (List.range 142).all (fun k => Nat.beq k 1 || (Nat.beq k 19 || junkable (x.1.ts.getD k undefA)))), [0, 1, 4, 5, 7, 8, 12, 19].map (fun k => x.1.ts[k]?), (tab n F).map (fun y => x.1.s.get y.1), x.1.s.h.bs.all (fun y => Nat.blt y.1 x.1.s.nx), x.1.s.nx, x.2.2)) = some ((142, true), preT mb l0 n, (tab n F).map (fun y => some y.2), true, twN n + 7, preQ mb ln l0 F n)
  | 0, _ => by kernel_rfl
  | 1, _ => by kernel_rfl
  | 2, _ => by kernel_rfl
  | 3, _ => by kernel_rfl
  | 4, _ => by kernel_rfl
  | 5, _ => by kernel_rfl
  | 6, _ => by kernel_rfl
  | 7, _ => by kernel_rfl
  | 8, _ => by kernel_rfl
  | n + 9, h => absurd h (by omega)
def B64 : Nat := 18446744073709551616
def giB (n : Nat) (M : PM) : Bool := M.ms.all (fun x => Nat.blt x.2 B64) && (decide (getW M.ms aPh = 16) && (decide (getW M.ms aBl = 1) && ((List.range 40).all (fun j => decide (getW M.ms (aTh (Int.ofNat (j / 10)) (Int.ofNat (j % 10))) = wd j)) && (decide (getW M.ms aS1 ≠ 2) && ((List.range n).all (fun j => decide (hg (getW M.ms (aL (sl j) 0)) = 0 ∧ getW M.ms (aL (sl j) 1) = 0 ∧ getW M.ms (aL (sl j) 3) = 0 ∧ getW M.ms (aL (sl j) 4) = 0 ∧ (j + 1 < n → slI (getW M.ms (aL (sl j) 2)) = sl (j + 1)) ∧ (j + 1 = n → getW M.ms (aL (sl j) 2) = 0))) && decide (getW M.ms aO = if n = 0 then 0 else 65552))))))
theorem lt_all {B : Nat} (hB : 0 < B) {a : A3} : ∀ {ms : MS}, ms.all (fun x => Nat.blt x.2 B) = true → getW ms a < B
  | [], _ => hB
  | x :: t, h => by
    simp only [List.all_cons, Bool.and_eq_true] at h
    simp only [getW]
    split
    · exact Nat.blt_eq ▸ h.1
    · exact lt_all hB h.2
theorem giB_t {n : Nat} {M : PM} (hn : n ≤ 8) (h : giB n M = true) : GI n 65552 (.t1 0) (.t1 0) M := by
  simp only [giB, Bool.and_eq_true] at h
  obtain ⟨h1, h2, h3, h4, h5, h6, h7⟩ := h
  have h7 : getW M.ms aO = if n = 0 then 0 else 65552 := of_decide_eq_true h7
  refine ⟨hn, by decide, ⟨fun a => lt_all (by decide) h1, of_decide_eq_true h2, of_decide_eq_true h3, fun j hj => of_decide_eq_true (List.all_eq_true.1 h4 j (List.mem_range.2 hj)), of_decide_eq_true h5⟩, trivial, trivial, ?_, fun _ _ j hj => ?_, fun e => absurd (show (0 : Nat) = 2 from e) (by decide), fun e => absurd (show (0 : Nat) = 2 from e) (by decide)⟩
  · by_cases e : n = 0
    · rw [if_pos e] at h7
      exact .inr ⟨by rw [h7]; decide, by rw [h7]; decide, .inl ⟨e, show (0 : Nat) ≠ 2 by decide, show (0 : Nat) ≠ 2 by decide⟩⟩
    · rw [if_neg e] at h7
      exact .inl ⟨h7, by decide, by omega, rfl, rfl⟩
  · obtain ⟨a1, a2, a3, a4, a5, a6⟩ := of_decide_eq_true (List.all_eq_true.1 h6 j (List.mem_range.2 hj))
    exact ⟨a1, a2, a3, a4, a5, a6⟩
theorem gi_run : ∀ n, n < 9 → giB n (MG n) = true
  | 0, _ => by kernel_rfl
  | 1, _ => by kernel_rfl
  | 2, _ => by kernel_rfl
  | 3, _ => by kernel_rfl
  | 4, _ => by kernel_rfl
  | 5, _ => by kernel_rfl
  | 6, _ => by kernel_rfl
  | 7, _ => by kernel_rfl
  | 8, _ => by kernel_rfl
  | n + 9, h => absurd h (by omega)
def pi0 (t x : Nat) : Nat := if x = 4 then 3 else if x = 5 then 4 else if x = 6 then t else if x = 7 then t + 2 else if x = 8 then t + 1 else if x = 9 then t + 3 else if x = 30 then t + 5 else if x = 31 then t + 6 else x
def pi1 (t x : Nat) : Nat := if x = 4 then 3 else if x = 5 then 4 else if x = 6 then t else if x = 7 then t + 5 else if x = 8 then t + 4 else if x = 9 then t + 6 else if x = 30 then t + 2 else if x = 31 then t + 3 else x
theorem tw_ge (n : Nat) : 5 ≤ twN n := by
  cases n with
  | zero => decide
  | succ n => show 5 ≤ 10 * n + 15; omega
def KsN : Nat → List Nat
  | 0 => [2]
  | n + 1 => [2, 10 * n + 7]
theorem two0 {n hw : Nat} {F : List AV} {s : AS} (hs : ∀ y ∈ tab n F, s.get y.1 = some y.2) (hk : s.h.bs.all (fun y => Nat.blt y.1 s.nx) = true) : TwoP n hw false (.t1 0) (.t1 0) (MG n) s 3 (twN n) (KsN n) (pi0 (twN n)) (pi1 (twN n)) := by
  have h5 := tw_ge n
  have keys : ∀ k ∈ s.h.bs.map (·.1), k < s.nx := fun k hk' => by
    obtain ⟨y, hy, rfl⟩ := List.mem_map.1 hk'
    exact Nat.blt_eq ▸ List.all_eq_true.1 hk y hy
  have t0 := hs (0, .cells true wf) (by simp [tab])
  have t2 := hs (2, .cells true F) (by simp [tab])
  have t3 := hs (3, .cells false ((MG n).C (.map 4))) (by simp [tab])
  have t4 := hs (4, mapO (MG n).ms) (by simp [tab])
  have tt := hs (twN n, .cells false [.ptr (twN n + 2) 0, .ptr (twN n + 3) 0, .nilPtr, .ptr (twN n + 5) 0, .ptr (twN n + 6) 0, .nilPtr]) (by simp [tab])
  have u1 := hs (twN n + 1, listO 0) (by simp [tab])
  have u2 := hs (twN n + 2, guardX 0 (twN n + 1)) (by simp [tab])
  have u3 := hs (twN n + 3, takeO 1 0 0 0 .nilSlice) (by simp [tab])
  have u4 := hs (twN n + 4, listO 0) (by simp [tab])
  have u5 := hs (twN n + 5, guardX 1 (twN n + 4)) (by simp [tab])
  have u6 := hs (twN n + 6, takeO 1 0 0 0 .nilSlice) (by simp [tab])
  have nm : ∀ (k : Bool) (x : Nat × AObj), x ∈ mem (MG n) ++ own n hw k false (.t1 0) → x.1 ∈ [4, 5, 6, 7, 8, 9] := fun k x hx => by
    simp only [mem, own, base, List.mem_append, List.mem_cons, List.not_mem_nil, or_false] at hx
    rcases hx with (rfl | rfl) | (rfl | rfl) | (rfl | rfl) <;> simp
  have six : ∀ {b : Nat}, b ∈ [4, 5, 6, 7, 8, 9] → b = 4 ∨ b = 5 ∨ b = 6 ∨ b = 7 ∨ b = 8 ∨ b = 9 := fun h => by simpa using h
  have en : ∀ n : Nat, ∀ c ∈ KsN n, c = 2 ∨ (5 ≤ c ∧ c < twN n) := fun n c hc => by
    cases n with
    | zero => simp [KsN] at hc; exact .inl hc
    | succ n =>
      simp only [KsN, List.mem_cons, List.not_mem_nil, or_false] at hc
      rcases hc with rfl | rfl
      · exact .inl rfl
      · exact .inr ⟨by omega, by show 10 * n + 7 < 10 * n + 15; omega⟩
  have lt2 : 2 < s.nx := keys 2 (getB_mem t2)
  have ltt : twN n < s.nx := keys _ (getB_mem tt)
  refine ⟨⟨fun g hg => ?_, fun x hx => ?_, fun b hb x hx => ?_, fun b hb c hc e => ?_, ⟨t3, by show s.get 4 = _; rw [mapO_ren]; exact t4, tt, u2, u1, u3, trivial⟩, keys⟩, ⟨fun g hg => ?_, fun x hx => ?_, fun b hb x hx => ?_, fun b hb c hc e => ?_, ⟨t3, by show s.get 4 = _; rw [mapO_ren]; exact t4, tt, u5, u4, u6, trivial⟩, keys⟩, ⟨rfl, rfl⟩, rfl, ⟨rfl, rfl⟩, fun x hx y hy e => ?_, fun c hc => ⟨?_, fun x hx e => ?_, fun x hx e => ?_⟩⟩
  · rw [glN] at hg
    have : g = 0 ∨ g = 1 := by omega
    rcases this with rfl | rfl <;> rfl
  · simp only [Fz0, List.mem_cons, List.not_mem_nil, or_false] at hx
    subst hx
    exact ⟨true, t0⟩
  · obtain ⟨y, hy, rfl⟩ := List.mem_map.1 hb
    simp only [Fz0, List.mem_cons, List.not_mem_nil, or_false] at hx
    subst hx
    show pi0 (twN n) y.1 ≠ 0
    rcases six (nm false y hy) with e | e | e | e | e | e <;> rw [e] <;> simp [pi0] <;> omega
  · obtain ⟨y, hy, rfl⟩ := List.mem_map.1 hb
    obtain ⟨z, hz, rfl⟩ := List.mem_map.1 hc
    have e : pi0 (twN n) y.1 = pi0 (twN n) z.1 := e
    rcases six (nm false y hy) with e1 | e1 | e1 | e1 | e1 | e1 <;> rcases six (nm false z hz) with e2 | e2 | e2 | e2 | e2 | e2 <;> rw [e1, e2] at e ⊢ <;> simp [pi0] at e <;> omega
  · rw [glN] at hg
    have : g = 0 ∨ g = 1 := by omega
    rcases this with rfl | rfl <;> rfl
  · simp only [Fz0, List.mem_cons, List.not_mem_nil, or_false] at hx
    subst hx
    exact ⟨true, t0⟩
  · obtain ⟨y, hy, rfl⟩ := List.mem_map.1 hb
    simp only [Fz0, List.mem_cons, List.not_mem_nil, or_false] at hx
    subst hx
    show pi1 (twN n) y.1 ≠ 0
    rcases six (nm true y hy) with e | e | e | e | e | e <;> rw [e] <;> simp [pi1] <;> omega
  · obtain ⟨y, hy, rfl⟩ := List.mem_map.1 hb
    obtain ⟨z, hz, rfl⟩ := List.mem_map.1 hc
    have e : pi1 (twN n) y.1 = pi1 (twN n) z.1 := e
    rcases six (nm true y hy) with e1 | e1 | e1 | e1 | e1 | e1 <;> rcases six (nm true z hz) with e2 | e2 | e2 | e2 | e2 | e2 <;> rw [e1, e2] at e ⊢ <;> simp [pi1] at e <;> omega
  · have ex : x.1 = 7 ∨ x.1 = 8 ∨ x.1 = 9 := by
      simp only [tl, own, base, List.cons_append, List.nil_append, List.tail_cons, List.mem_cons, List.not_mem_nil, or_false] at hx
      rcases hx with rfl | rfl | rfl <;> simp
    have ey : y.1 = 7 ∨ y.1 = 8 ∨ y.1 = 9 := by
      simp only [tl, own, base, List.cons_append, List.nil_append, List.tail_cons, List.mem_cons, List.not_mem_nil, or_false] at hy
      rcases hy with rfl | rfl | rfl <;> simp
    rcases ex with e1 | e1 | e1 <;> rcases ey with e2 | e2 | e2 <;> rw [e1, e2] at e <;> simp [pi0, pi1] at e
  · rcases en n c hc with rfl | ⟨_, h⟩
    · exact lt2
    · omega
  · rcases en n c hc with rfl | ⟨h1, h2⟩ <;> rcases six (nm false x hx) with e1 | e1 | e1 | e1 | e1 | e1 <;> rw [e1] at e <;> simp [pi0] at e <;> omega
  · rcases en n c hc with rfl | ⟨h1, h2⟩ <;> rcases six (nm true x hx) with e1 | e1 | e1 | e1 | e1 | e1 <;> rw [e1] at e <;> simp [pi1] at e <;> omega
theorem pre_sound {mb ln : Nat} {l0 : AV} {F : List AV} {n : Nat} (hn : n < 9) (hm : mb % 9 = n) (hl : ∀ s, lenA Tryz.prog s 22 l0 = some (.int .i64 (Int.ofNat ln))) (h5 : ln ≤ 500) :
    ∃ ts s, (ts.length = 142 ∧ (List.range 142).all (fun k => Nat.beq k 1 || (Nat.beq k 19 || junkable (ts.getD k undefA))) = true) ∧ [0, 1, 4, 5, 7, 8, 12, 19].map (fun k => ts[k]?) = preT mb l0 n ∧ (∀ y ∈ tab n F, s.get y.1 = some y.2) ∧ s.h.bs.all (fun y => Nat.blt y.1 s.nx) = true ∧ ∀ c r, Sound Tryz.prog (.code c ts s) r → Sound Tryz.prog (.code (seqs ps c) (T0 mb l0) (sL F)) r := by
  have h := pre_run mb ln l0 F n hn
  cases hr : preR mb ln l0 F n with
  | none => rw [hr] at h; cases h
  | some x =>
    rw [hr] at h
    obtain ⟨⟨e, ts, s⟩, ds', q'⟩ := x
    simp only [Option.map_some, Option.some.injEq, Prod.mk.injEq] at h
    obtain ⟨⟨h1, h1b⟩, h2, h3, h4, _, rfl⟩ := h
    refine ⟨ts, s, ⟨h1, h1b⟩, h2, fun y hy => List.map_inj_left.1 h3 y hy, h4, runPs_ok mixed hk21_ok ps _ _ _ _ _ _ _ _ hr ⟨hl _, ?_, by rw [Qst.ok, hm], trivial⟩⟩
    rw [Qst.ok, show decide (Int.ofNat ln > 500) = false from decide_eq_false (by simp only [Int.ofNat_eq_natCast]; omega)]
end Go.Proofs.YtimnagafechmbaaGreatDoor.scansOrphans
