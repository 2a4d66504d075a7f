/- The beginning of the law. Conditions: those that each theorem names, and no others. -/
import Derived.Test.YtofbdgmknfbkfaaGreatDoorLife18
namespace Go.Proofs.YtofbdgmknfbkfaaGreatDoor.nodesLife
open Go Go.Mini
/-! ### the law's beginning -/
noncomputable def lawC : Code := match Tryz.f3.body with
  | some c => c
  | none => .skip
theorem law_body : Tryz.f3.body = some lawC := by kernel_rfl
noncomputable def psA : List Code := [pcS 0 lawC, pcS 1 lawC, pcS 2 lawC, pcS 3 lawC, pcS 4 lawC, pcS 5 lawC, pcS 6 lawC, pcS 7 lawC, pcS 8 lawC, pcS 9 lawC]
noncomputable def cR15 : Code := pcS 0 (pcS 10 lawC)
noncomputable def cR37 : Code := pcS 0 (pcS 11 lawC)
noncomputable def cR42 : Code := pcS 0 (pcS 12 lawC)
noncomputable def cEnd : Code := dropS 13 lawC
theorem law_eq : lawC = seqs psA (.seq (.seq cR15 (.block 2 (.loop c1L))) (.seq (.seq cR37 (.block 8 (.loop c4L))) (.seq (.seq cR42 (.block 10 (.loop c5L))) cEnd))) := by kernel_rfl
def sZ (FL : List AV) : AS := ⟨⟨[(2, .cells true FL), (1, .cells true wf), (0, .cells true lf)], 3, none, []⟩, 3⟩
def sY (z0 z1 z2 : Nat) (FL : List AV) : AS := ⟨⟨[(3, .cells false [u8 z0, u8 z1, u8 z2]), (2, .cells true FL), (1, .cells true wf), (0, .cells true lf)], 4, none, []⟩, 4⟩
def T0 (lV : AV) (z0 z1 z2 : Nat) : List AV := [lV, .agg [u8 z0, u8 z1, u8 z2]] ++ List.replicate 201 undefA
def r12 (z1 z2 thr most : Nat) : List Dec := [.val 3 12 5 (i64 (Int.ofNat z1)), .val 3 12 6 (i64 (Int.ofNat thr)), .val 3 12 9 (u32 z2), .val 3 12 10 (u32 most)]
def preD (z1 z2 a b c n ph thr most nL : Nat) : List Dec := [.val 3 1 1 (i64 (Int.ofNat nL)), .val 3 1 2 (.bool false), .call 3 3 0 (.tuple [.ptr 4 0, .bool true]) (fun s => (s.push (.cells false (MB.C (.map 5)))).push (mapO MB.ms)), .pure 3 6 3 [] (.agg (phC a b c n)), .pure 6 1 3 G (u64 ph)] ++ (r12 z1 z2 thr most ++ (r12 z1 z2 thr most ++ (r12 z1 z2 thr most ++ [.val 3 13 2 (u32 z2), .val 3 13 3 (u32 most)])))
def M0 (ph : Nat) : PM := ⟨MB.ms ++ [((3, 0, 0), ph), ((5, 0, 0), 1)], 52, 2, (5, 0, 0), 0, 1, false⟩
def R0L (thr most : Nat) : List AV := [.ptr 25 0, i64 (Int.ofNat thr), i64 0, u32 most, .nilSlice, .nilPtr, .nilPtr, .nilPtr, .nilPtr, .ptr 32 0, i64 (Int.ofNat thr), i64 0, u32 most, .nilSlice, .nilPtr, .nilPtr, .nilPtr, .nilPtr, .ptr 39 0, i64 (Int.ofNat thr), i64 0, u32 most, .nilSlice, .nilPtr, .nilPtr, .nilPtr, .nilPtr]
def gdC (k l : Nat) : List AV := [.bool false, u8 0, u64 0, u64 0, u64 0, u64 0, .bool true, i64 (Int.ofNat k), .ptr l 0]
def liN : AObj := .cells false [.nilSlice, .nilMap]
def tab (FL : List AV) (ph thr most : Nat) : List (Nat × AObj) := [(0, .cells true lf), (1, .cells true wf), (2, .cells true FL), (4, .cells false ((M0 ph).C (.map 5))), (5, mapO (M0 ph).ms), (21, .cells false (R0L thr most)),
  (24, liN), (25, .cells false (gdC 0 24)), (31, liN), (32, .cells false (gdC 1 31)), (38, liN), (39, .cells false (gdC 2 38)), (43, .map [] [] 0), (44, .cells false [.map 43, u32 most])]
abbrev PLt : Type := List AV × List (Option AObj) × (Bool × Nat) × List Qst × List Qst
noncomputable def preL (lV : AV) (FL : List AV) (z0 z1 z2 a b c n ph thr most nL : Nat) : Option PLt := match runPs Tryz.prog none_ 400 3 psA (T0 lV z0 z1 z2) (sZ FL) (preD z1 z2 a b c n ph thr most nL) with
  | some (⟨_, ts1, s1⟩, _, q1) => match runX Tryz.prog none_ 60 3 (.code cR15 ts1 s1) [] with
    | some (⟨.normal, ts2, s2⟩, _, q2) => some (ts2, (tab FL ph thr most).map (fun y => s2.get y.1), (s2.h.bs.all (fun y => Nat.blt y.1 s2.nx), s2.nx), q1, q2)
    | _ => none
  | none => none
def qz3 (z1 z2 thr most : Nat) : List Qst := [.val (some (.int .i64 (IntKind.i64.wrap (Int.ofNat z1)))) (i64 (Int.ofNat z1)), .val (some (.int .i64 (Int.ofNat (z1 % 4)))) (i64 (Int.ofNat thr)), .val (some (.int .u32 (Int.ofNat (z2 % ((2 : Int) ^ IntKind.u32.bits).natAbs)))) (u32 z2), .val (some (.int .u32 (Int.ofNat (z2 % 4)))) (u32 most)]
def preQ (lV : AV) (FL : List AV) (z0 z1 z2 a b c n ph thr most nL : Nat) : List Qst := [.ln 22 (sY z0 z1 z2 FL) lV (i64 (Int.ofNat nL)), .val (some (.bool (decide (Int.ofNat nL > 300)))) (.bool false), .snd (.call 5 [i64 2] (sY z0 z1 z2 FL)) ⟨.ret, [.tuple [.ptr 4 0, .bool true]], ((sY z0 z1 z2 FL).push (.cells false (MB.C (.map 5)))).push (mapO MB.ms)⟩,
  .pure [] 7 [u8 z0] (.agg (phC a b c n)), .pure G 28 [.agg (phC a b c n)] (u64 ph)] ++ (qz3 z1 z2 thr most ++ (qz3 z1 z2 thr most ++ (qz3 z1 z2 thr most ++ [.val (some (.int .u32 (Int.ofNat (z2 % ((2 : Int) ^ IntKind.u32.bits).natAbs)))) (u32 z2), .val (some (.int .u32 (Int.ofNat (z2 % 4)))) (u32 most)])))
noncomputable def preR (lV : AV) (FL : List AV) (z0 z1 z2 a b c n ph thr most nL : Nat) : Option PLt := match runPs Tryz.prog none_ 400 3 psA (T0 lV z0 z1 z2) (sZ FL) (preD z1 z2 a b c n ph thr most nL) with
  | some (⟨_, ts1, s1⟩, _, _) => match runX Tryz.prog none_ 60 3 (.code cR15 ts1 s1) [] with
    | some (⟨_, ts2, _⟩, _, _) => some (TL 3 4 21 44 lV .nilSlice (i64 0) (tget ts2 12) (tget ts2 13) (tget ts2 17) (tget ts2 18) (tget ts2 19) (tget ts2), (tab FL ph thr most).map (fun y => some y.2), (true, 45), preQ lV FL z0 z1 z2 a b c n ph thr most nL, [])
    | none => some ([], [], (true, 0), [], [])
  | none => some ([], [], (true, 0), [], [])
theorem pre_run (lV : AV) (FL : List AV) (z0 z1 z2 a b c n ph thr most nL : Nat) : preL lV FL z0 z1 z2 a b c n ph thr most nL = preR lV FL z0 z1 z2 a b c n ph thr most nL := by kernel_rfl
end Go.Proofs.YtofbdgmknfbkfaaGreatDoor.nodesLife
namespace Go.Proofs.YtofbdgmknfbkfaaGreatDoor.nodesLife
open Go Go.Mini
/-! ### what lies there at first -/
def th0 : Nat → Th := fun _ => ⟨[], [], .no⟩
def psi0 (j b : Nat) : Nat := if b = 7 then 4 else if b = 8 then 5 else if b = 10 then (if j = 3 then 44 else 25 + 7 * j) else if b = 11 then (if j = 3 then 43 else 24 + 7 * j) else b
def w0 (b : Nat) : Nat := if b = 7 then 4 else if b = 8 then 5 else b
def hb0 (j : Nat) : Nat := if j = 0 then 22 else if j = 1 then 23 else if j = 2 then 26 else 28
def hv0 : Nat → AV := fun _ => .nilSlice
def Ks0 : List Nat := [21, 22, 23, 26, 28, 2]
def B0 : List (Nat × AObj) := [(11, liV .nilSlice .nilMap)]
def C0 (most : Nat) (j : Nat) : List (Nat × AObj) := if j < 3 then gl j B0 else if j = 3 then shB most [] [] 0 else []
theorem getW_no {a : A3} : ∀ {ms : MS}, (∀ x ∈ ms, x.1 ≠ a) → getW ms a = 0
  | [], _ => rfl
  | x :: t, h => by
    simp only [getW]
    rw [if_neg (fun e => h x List.mem_cons_self e.symm)]
    exact getW_no fun y hy => h y (List.mem_cons_of_mem _ hy)
theorem getW_lt {B : Nat} (hB : 0 < B) {a : A3} : ∀ {ms : MS}, (∀ x ∈ ms, x.2 < B) → getW ms a < B
  | [], _ => hB
  | x :: t, h => by
    simp only [getW]
    split
    · exact h x List.mem_cons_self
    · exact getW_lt hB fun y hy => h y (List.mem_cons_of_mem _ hy)
theorem getW_app {a : A3} {l2 : MS} : ∀ {l : MS}, (∀ x ∈ l2, x.1 ≠ a) → getW (l ++ l2) a = getW l a
  | [], h => getW_no h
  | x :: t, h => by
    show (if a = x.1 then x.2 else getW (t ++ l2) a) = if a = x.1 then x.2 else getW t a
    rw [getW_app h]
theorem mb_keys : ∀ x ∈ MB.ms, (x.1.1 = 6 ∨ x.1.1 = 9 ∧ x.1.2.2 = 2 ∨ x.1.1 = 0) ∧ x.2 < 2000000 := by
  have h : MB.ms.all (fun x => (x.1.1 == 6 || (x.1.1 == 9 && x.1.2.2 == 2) || x.1.1 == 0) && Nat.blt x.2 2000000) = true := by kernel_rfl
  intro x hx
  have := List.all_eq_true.1 h x hx
  simp only [Bool.and_eq_true, Bool.or_eq_true, beq_iff_eq] at this
  obtain ⟨h1, h2⟩ := this
  exact ⟨by rcases h1 with (h | h) | h <;> simp [h], Nat.blt_eq ▸ h2⟩
section
variable {ph thr most : Nat}
theorem m_keys {a : A3} (h6 : a.1 ≠ 6) (h9 : a.1 = 9 → a.2.2 ≠ 2) (h0 : a.1 ≠ 0) (h3 : a.1 ≠ 3) (h5 : a.1 ≠ 5) : getW (M0 ph).ms a = 0 := by
  refine getW_no fun x hx => ?_
  rcases List.mem_append.1 hx with hx | hx
  · rintro rfl
    rcases (mb_keys x hx).1 with h | ⟨h, h'⟩ | h
    · exact h6 h
    · exact h9 h h'
    · exact h0 h
  · simp only [List.mem_cons, List.not_mem_nil, or_false] at hx
    rintro rfl
    rcases hx with rfl | rfl
    · exact h3 rfl
    · exact h5 rfl
theorem m_mb {a : A3} (h3 : a.1 ≠ 3) (h5 : a.1 ≠ 5) : getW (M0 ph).ms a = getW MB.ms a := getW_app fun x hx => by
  simp only [List.mem_cons, List.not_mem_nil, or_false] at hx
  rintro rfl
  rcases hx with rfl | rfl
  · exact h3 rfl
  · exact h5 rfl
theorem m_lt (hp : ph < 18446744073709551616) : Lt (M0 ph) := fun a => getW_lt (by decide) fun x hx => by
  rcases List.mem_append.1 hx with hx | hx
  · have := (mb_keys x hx).2
    omega
  · simp only [List.mem_cons, List.not_mem_nil, or_false] at hx
    rcases hx with rfl | rfl
    · exact hp
    · show 1 < _
      decide
theorem m_hdr (z : Nat) : hdr (M0 ph) z = 0 := m_keys (show (9 : Int) ≠ 6 by decide) (fun _ => show (0 : Int) ≠ 2 by decide) (show (9 : Int) ≠ 0 by decide) (show (9 : Int) ≠ 3 by decide) (show (9 : Int) ≠ 5 by decide)
theorem m_lnk (z : Nat) : lnk (M0 ph) z = slI (getW MB.ms (aZ z 2)) := by
  unfold lnk
  rw [m_mb (show (9 : Int) ≠ 3 by decide) (show (9 : Int) ≠ 5 by decide)]
def FL0 : List Nat := [15, 14, 13, 12, 11, 10, 9, 8, 7, 6, 5, 4, 3, 2, 1, 0]
def chB : List Nat → Bool
  | [] => true
  | z :: l => decide (slI (getW MB.ms (aZ z 2)) = hdI l) && chB l
theorem chB_ok : ∀ {l : List Nat}, chB l = true → chain (M0 ph) l
  | [], _ => trivial
  | z :: l, h => by
    simp only [chB, Bool.and_eq_true, decide_eq_true_eq] at h
    exact ⟨(m_lnk z).trans h.1, chB_ok h.2⟩
theorem inv0 (hp : ph < 18446744073709551616) : Inv most 100 (M0 ph) FL0 th0 [] := by
  have hw : hdW (M0 ph) = getW MB.ms aF := m_mb (show (0 : Int) ≠ 3 by decide) (show (0 : Int) ≠ 5 by decide)
  have ow : ∀ k, own (th0 k) = [] := fun k => rfl
  refine ⟨m_lt hp, ⟨?_, ?_, ?_, fun k f => ?_⟩, ?_, ?_, chB_ok (by kernel_rfl), fun z _ => ⟨0, Nat.zero_le _, m_hdr z⟩, by decide, fun k _ => by rw [ow]; exact List.nodup_nil, fun k _ z hz => (by rw [ow] at hz; cases hz), fun j _ k _ _ z hz => (by rw [ow] at hz; cases hz), (by decide), fun k _ z hz => (by rw [ow] at hz; cases hz), fun k _ => ⟨fun r hr => (by cases hr), fun e he => (by cases he), trivial⟩, fun r hr => (by cases hr)⟩
  · rw [m_mb (show (6 : Int) ≠ 3 by decide) (show (6 : Int) ≠ 5 by decide)]
    kernel_rfl
  · rw [m_mb (show (6 : Int) ≠ 3 by decide) (show (6 : Int) ≠ 5 by decide)]
    kernel_rfl
  · show getW (MB.ms ++ [((3, 0, 0), ph), ((5, 0, 0), 1)]) (5, 0, 0) = 1
    kernel_rfl
  · exact m_keys (show (8 : Int) ≠ 6 by decide) (fun h => absurd h (show (8 : Int) ≠ 9 by decide)) (show (8 : Int) ≠ 0 by decide) (show (8 : Int) ≠ 3 by decide) (show (8 : Int) ≠ 5 by decide)
  · rw [hw]
    kernel_rfl
  · rw [hw]
    exact of_decide_eq_true (by kernel_rfl)
theorem lay0 {s : AS} {FL : List AV} (hs : ∀ y ∈ tab FL ph thr most, s.get y.1 = some y.2) (hk : s.h.bs.all (fun y => Nat.blt y.1 s.nx) = true) (hn : s.nx = 45) : LayL thr most (M0 ph) th0 [] [] s w0 (C0 most) psi0 21 hb0 hv0 Ks0 := by
  have keys : ∀ k ∈ s.h.bs.map (·.1), k < s.nx := fun k hk' => by
    obtain ⟨y, hy, rfl⟩ := List.mem_map.1 hk'
    exact Nat.blt_eq ▸ List.all_eq_true.1 hk y hy
  have t0 := hs (0, .cells true lf) (by simp [tab])
  have t1 := hs (1, .cells true wf) (by simp [tab])
  have t4 := hs (4, .cells false ((M0 ph).C (.map 5))) (by simp [tab])
  have t5 := hs (5, mapO (M0 ph).ms) (by simp [tab])
  have t21 := hs (21, .cells false (R0L thr most)) (by simp [tab])
  have t43 := hs (43, .map [] [] 0) (by simp [tab])
  have t44 := hs (44, .cells false [.map 43, u32 most]) (by simp [tab])
  have tg : ∀ k, k < 3 → s.get (25 + 7 * k) = some (.cells false (gdC k (24 + 7 * k))) ∧ s.get (24 + 7 * k) = some liN := fun k hk => by
    match k, hk with
    | 0, _ => exact ⟨hs (25, .cells false (gdC 0 24)) (by simp [tab]), hs (24, liN) (by simp [tab])⟩
    | 1, _ => exact ⟨hs (32, .cells false (gdC 1 31)) (by simp [tab]), hs (31, liN) (by simp [tab])⟩
    | 2, _ => exact ⟨hs (39, .cells false (gdC 2 38)) (by simp [tab]), hs (38, liN) (by simp [tab])⟩
  have hc : ∀ j, j < 3 → C0 most j = [(10, gdO j), (11, liV .nilSlice .nilMap)] := fun j hj => by
    unfold C0
    rw [if_pos hj]
    rfl
  have hc3 : C0 most 3 = [(10, .cells false [.map 11, u32 most]), (11, hsO [] [] 0)] := rfl
  have nm : ∀ j, j < 4 → ∀ x ∈ C0 most j, x.1 = 10 ∨ x.1 = 11 := fun j hj x hx => by
    by_cases e : j < 3
    · rw [hc j e] at hx
      simp only [List.mem_cons, List.not_mem_nil, or_false] at hx
      rcases hx with rfl | rfl
      · exact .inl rfl
      · exact .inr rfl
    · obtain rfl : j = 3 := by omega
      rw [hc3] at hx
      simp only [List.mem_cons, List.not_mem_nil, or_false] at hx
      rcases hx with rfl | rfl
      · exact .inl rfl
      · exact .inr rfl
  have nmm : ∀ x ∈ memP (M0 ph), x.1 = 7 ∨ x.1 = 8 := fun x hx => by
    simp only [memP, List.mem_cons, List.not_mem_nil, or_false] at hx
    rcases hx with rfl | rfl
    · exact .inl rfl
    · exact .inr rfl
  have p7 : ∀ j, psi0 j 7 = 4 := fun j => rfl
  have p8 : ∀ j, psi0 j 8 = 5 := fun j => rfl
  have p10 : ∀ j, psi0 j 10 = if j = 3 then 44 else 25 + 7 * j := fun j => rfl
  have p11 : ∀ j, psi0 j 11 = if j = 3 then 43 else 24 + 7 * j := fun j => rfl
  have all : ∀ j, j < 4 → ∀ x ∈ memP (M0 ph) ++ C0 most j, (x.1 = 7 ∧ psi0 j x.1 = 4) ∨ (x.1 = 8 ∧ psi0 j x.1 = 5) ∨ (x.1 = 10 ∧ psi0 j x.1 = if j = 3 then 44 else 25 + 7 * j) ∨ (x.1 = 11 ∧ psi0 j x.1 = if j = 3 then 43 else 24 + 7 * j) := fun j hj x hx => by
    rcases List.mem_append.1 hx with hx | hx
    · rcases nmm x hx with e | e
      · exact .inl ⟨e, by rw [e]; rfl⟩
      · exact .inr (.inl ⟨e, by rw [e]; rfl⟩)
    · rcases nm j hj x hx with e | e
      · exact .inr (.inr (.inl ⟨e, by rw [e]; rfl⟩))
      · exact .inr (.inr (.inr ⟨e, by rw [e]; rfl⟩))
  have rng : ∀ j, j < 4 → ∀ x ∈ memP (M0 ph) ++ C0 most j, (psi0 j x.1 = 4 ∨ psi0 j x.1 = 5 ∨ psi0 j x.1 = 43 ∨ psi0 j x.1 = 44 ∨ psi0 j x.1 = 24 ∨ psi0 j x.1 = 25 ∨ psi0 j x.1 = 31 ∨ psi0 j x.1 = 32 ∨ psi0 j x.1 = 38 ∨ psi0 j x.1 = 39) := fun j hj x hx => by
    have hj' : j = 0 ∨ j = 1 ∨ j = 2 ∨ j = 3 := by omega
    have := all j hj x hx
    rcases hj' with rfl | rfl | rfl | rfl <;> simp at this <;> omega
  refine ⟨⟨fun j hj => ⟨fun g hg => ?_, fun x hx => ?_, fun b hb x hx => ?_, fun b hb c hc' e => ?_, eachX_all fun x hx => ?_, keys⟩, fun j hj x hx => ?_, fun j hj k hk hjk x hx y hy => ?_, fun c hc' => ⟨?_, fun j hj x hx => ?_⟩⟩, fun k hk => ?_, ⟨[], 0, rfl⟩, ⟨R0L thr most, t21, ⟨rfl, fun k hk => ?_, fun k hk => ?_, fun k hk => ?_, fun k hk => ?_, fun k hk => ?_, fun k hk => ?_, fun k hk => ?_, fun k hk => ?_, fun k hk => ?_⟩⟩, fun k hk => .inl ⟨rfl, ?_⟩, ⟨by simp [Ks0], by decide⟩, fun j hj => ?_, fun i hi j hj hij => ?_⟩
  · rw [glN2] at hg
    unfold psi0
    rw [if_neg (by omega), if_neg (by omega), if_neg (by omega), if_neg (by omega)]
  · simp only [GF, G2, List.mem_cons, List.not_mem_nil, or_false] at hx
    rcases hx with rfl | rfl
    · exact ⟨true, t0⟩
    · exact ⟨true, t1⟩
  · obtain ⟨y, hy, rfl⟩ := List.mem_map.1 hb
    have h3 := (gz x hx).1
    have e : psi0 j x.1 = x.1 := by
      unfold psi0
      rw [if_neg (by omega), if_neg (by omega), if_neg (by omega), if_neg (by omega)]
    rw [e]
    have := rng j hj y hy
    omega
  · obtain ⟨y, hy, rfl⟩ := List.mem_map.1 hb
    obtain ⟨z, hz, rfl⟩ := List.mem_map.1 hc'
    have h1 := all j hj y hy
    have h2 := all j hj z hz
    have hj' : j = 0 ∨ j = 1 ∨ j = 2 ∨ j = 3 := by omega
    rcases hj' with rfl | rfl | rfl | rfl <;> simp at h1 h2 <;> omega
  · rcases List.mem_append.1 hx with hx | hx
    · simp only [memP, List.mem_cons, List.not_mem_nil, or_false] at hx
      rcases hx with rfl | rfl
      · exact t4
      · show s.get 5 = _
        rw [mapO_ren]
        exact t5
    · by_cases e : j < 3
      · rw [hc j e] at hx
        have e3 : psi0 j 10 = 25 + 7 * j := by rw [p10, if_neg (by omega)]
        have e4 : psi0 j 11 = 24 + 7 * j := by rw [p11, if_neg (by omega)]
        simp only [List.mem_cons, List.not_mem_nil, or_false] at hx
        rcases hx with rfl | rfl
        · show s.get (psi0 j 10) = some (AObj.cells false [.bool false, u8 0, u64 0, u64 0, u64 0, u64 0, .bool true, i64 (Int.ofNat j), .ptr (psi0 j 11) 0])
          rw [e3, e4]
          exact (tg j e).1
        · show s.get (psi0 j 11) = some liN
          rw [e4]
          exact (tg j e).2
      · obtain rfl : j = 3 := by omega
        rw [hc3] at hx
        simp only [List.mem_cons, List.not_mem_nil, or_false] at hx
        rcases hx with rfl | rfl
        · exact t44
        · exact t43
  · rcases nmm x hx with e | e <;> rw [e] <;> rfl
  · have h1 := all j hj x (List.mem_append.2 (.inr hx))
    have h2 := all k hk y (List.mem_append.2 (.inr hy))
    have n1 := nm j hj x hx
    have n2 := nm k hk y hy
    have hj' : j = 0 ∨ j = 1 ∨ j = 2 ∨ j = 3 := by omega
    have hk' : k = 0 ∨ k = 1 ∨ k = 2 ∨ k = 3 := by omega
    rcases hj' with rfl | rfl | rfl | rfl <;> rcases hk' with rfl | rfl | rfl | rfl <;> simp at h1 h2 hjk <;> omega
  · simp only [Ks0, List.mem_cons, List.not_mem_nil, or_false] at hc'
    omega
  · have := rng j hj x hx
    simp only [Ks0, List.mem_cons, List.not_mem_nil, or_false] at hc'
    omega
  · refine ⟨B0, [], .inl ⟨rfl, rfl⟩, rfl, ?_⟩
    unfold C0
    rw [if_pos hk]
    rfl
  · match k, hk with
    | 0, _ => rfl
    | 1, _ => rfl
    | 2, _ => rfl
  · match k, hk with
    | 0, _ => rfl
    | 1, _ => rfl
    | 2, _ => rfl
  · match k, hk with
    | 0, _ => rfl
    | 1, _ => rfl
    | 2, _ => rfl
  · match k, hk with
    | 0, _ => rfl
    | 1, _ => rfl
    | 2, _ => rfl
  · match k, hk with
    | 0, _ => rfl
    | 1, _ => rfl
    | 2, _ => rfl
  · match k, hk with
    | 0, _ => rfl
    | 1, _ => rfl
    | 2, _ => rfl
  · match k, hk with
    | 0, _ => rfl
    | 1, _ => rfl
    | 2, _ => rfl
  · match k, hk with
    | 0, _ => rfl
    | 1, _ => rfl
    | 2, _ => rfl
  · match k, hk with
    | 0, _ => rfl
    | 1, _ => rfl
    | 2, _ => rfl
  · unfold rsOf th0
    split <;> rfl
  · have hj' : j = 0 ∨ j = 1 ∨ j = 2 ∨ j = 3 := by omega
    rcases hj' with rfl | rfl | rfl | rfl <;> simp [hb0, Ks0]
  · have hi' : i = 0 ∨ i = 1 ∨ i = 2 ∨ i = 3 := by omega
    have hj' : j = 0 ∨ j = 1 ∨ j = 2 ∨ j = 3 := by omega
    rcases hi' with rfl | rfl | rfl | rfl <;> rcases hj' with rfl | rfl | rfl | rfl <;> simp [hb0] at hij ⊢
end
end Go.Proofs.YtofbdgmknfbkfaaGreatDoor.nodesLife
