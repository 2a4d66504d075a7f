/- What lives says; the beginning of the law. Conditions: those that each theorem names, and no others. -/
import Derived.Test.YtcnfblibfndepaaGreatDoorCover12
namespace Go.Proofs.YtcnfblibfndepaaGreatDoor.ctlsCover
open Go Go.Mini
/-! ### lives -/
def saysYes : Option Res → Bool
  | some ⟨.ret, [.bool true], _⟩ => true
  | _ => false
theorem lives_run : saysYes (runH Tryz.prog none_ 1500 (.call 4 [] (startS Tryz.prog GF))) = true := by kernel_rfl
theorem lives_q : (Qst.pure GF 4 [] (.bool true)).ok Tryz.prog := by
  have h := lives_run
  cases hr : runH Tryz.prog none_ 1500 (.call 4 [] (startS Tryz.prog GF)) with
  | none => rw [hr] at h; cases h
  | some r =>
    rw [hr] at h
    obtain ⟨e, ts, s1⟩ := r
    unfold saysYes at h
    split at h
    · rename_i h1
      injection h1 with h1
      injection h1 with h1 h2 h3
      subst h1 h2
      exact fun s hs => Sound.pure (runH_sound mixed none_sound _ _ _ hr) rfl rfl rfl hs
    · cases h
end Go.Proofs.YtcnfblibfndepaaGreatDoor.ctlsCover
namespace Go.Proofs.YtcnfblibfndepaaGreatDoor.ctlsCover
open Go Go.Mini
/-! ### the law's beginning -/
def pcS : Nat → Code → Code
  | 0, .seq a _ => a
  | k + 1, .seq _ b => pcS k b
  | _, c => c
def dropS : Nat → Code → Code
  | 0, c => c
  | k + 1, .seq _ b => dropS k b
  | _, c => c
noncomputable def lawC : Code := match Tryz.f3.body with
  | some c => c
  | none => .skip
theorem law_body : Tryz.f3.body = some lawC := by kernel_rfl
def runPs (P : Program) (hk : Go.Mini.Task → Option Res) (n f : Nat) : List Code → List AV → AS → List Dec → Option (Res × List Dec × List Qst)
  | [], ts, s, ds => some (⟨.normal, ts, s⟩, ds, [])
  | c :: l, ts, s, ds => match runX P hk n f (.code c ts s) ds with
    | some (⟨.normal, ts', s'⟩, ds', q) => match runPs P hk n f l ts' s' ds' with
      | some (r, ds'', q') => some (r, ds'', q ++ q')
      | none => none
    | _ => none
def seqs : List Code → Code → Code
  | [], r => r
  | c :: l, r => .seq c (seqs l r)
theorem runPs_ok {P : Program} {hk : Go.Mini.Task → Option Res} (hm : P.follows .mixedOrders = true) (hh : ∀ t r, hk t = some r → Sound P t r) {n f : Nat} : ∀ (cs : List Code) (ts : List AV) (s : AS) (ds : List Dec) (e : AExit) (ts1 : List AV) (s1 : AS) (ds1 : List Dec) (q : List Qst), runPs P hk n f cs ts s ds = some (⟨e, ts1, s1⟩, ds1, q) → Qsts P q → ∀ c r, Sound P (.code c ts1 s1) r → Sound P (.code (seqs cs c) ts s) r
  | [], ts, s, ds, e, ts1, s1, ds1, q, h, hq, c, r, hc => by
    simp only [runPs, Option.some.injEq, Prod.mk.injEq, Res.mk.injEq] at h
    obtain ⟨⟨_, rfl, rfl⟩, _, _⟩ := h
    exact hc
  | x :: l, ts, s, ds, e, ts1, s1, ds1, q, h, hq, c, r, hc => by
    simp only [runPs] at h
    split at h
    case h_2 => cases h
    rename_i ts' s' ds' q' h1
    split at h
    case h_2 => cases h
    rename_i r2 ds'' q2 h2
    simp only [Option.some.injEq, Prod.mk.injEq] at h
    obtain ⟨rfl, rfl, rfl⟩ := h
    rw [qsts_app] at hq
    exact seq_next (runX_sound hm hh h1 hq.1) (runPs_ok hm hh l _ _ _ _ _ _ _ _ h2 hq.2 c r hc)
noncomputable def ps : List Code := [pcS 0 lawC, pcS 1 lawC, pcS 2 lawC, pcS 3 lawC, pcS 4 lawC, pcS 5 lawC, pcS 6 lawC, pcS 7 lawC, pcS 8 lawC, pcS 9 lawC, pcS 10 lawC]
noncomputable def cI : Code := pcS 0 (pcS 11 lawC)
noncomputable def cRest : Code := dropS 12 lawC
theorem law_eq : lawC = seqs ps (.seq (.seq cI (.block 2 (.loop (loopAt Tryz.prog 3 1)))) cRest) := by kernel_rfl
def sZ (FT FL : List AV) : AS := ⟨⟨[(4, .cells true FL), (3, .cells true FT), (1, .cells true wfB), (2, .cells true wfP), (0, .cells true wfW)], 5, none, []⟩, 5⟩
def T0 (fr lk : Nat) (lT lL : AV) : List AV := .agg [.int .u8 (Int.ofNat fr), lT, .int .u8 (Int.ofNat lk), lL] :: List.replicate 123 undefA
def NN : Nat := 281474976710653
def MP (q : Nat) : PM := ⟨[((3, 0, 0), 8 * scN q + 18446744073709355008), ((5, 0, 0), 1), ((8, 0, 0), 1), ((8, 0, 2), 281474976710653), ((8, 1, 0), 1), ((8, 1, 2), 281474976710653), ((8, 2, 0), 1), ((8, 2, 2), 281474976710653), ((8, 3, 0), 1), ((8, 3, 2), 281474976710653)], 10, 2, (8, 3, 2), 0, 281474976710653, false⟩
def R0 : List AV := [.ptr 27 0, .nilPtr, .nilPtr, .ptr 43 0, .nilPtr, .nilPtr, .ptr 59 0, .nilPtr, .nilPtr, .ptr 75 0, .nilPtr, .nilPtr]
def tab (q fr lk : Nat) (lT lL : AV) (FT FL : List AV) : List (Nat × AObj) := [(0, .cells true wfW), (1, .cells true wfB), (2, .cells true wfP), (3, .cells true FT), (4, .cells true FL), (5, .cells false [.int .u8 (Int.ofNat fr), lT, .int .u8 (Int.ofNat lk), lL]), (6, mapO (MP q).ms), (7, .cells false ((MP q).C (.map 6))), (8, .cells false SaC), (25, .cells false R0),
  (27, .cells false (gC 0 false 0 0 26)), (43, .cells false (gC 1 false 0 0 42)), (59, .cells false (gC 2 false 0 0 58)), (75, .cells false (gC 3 false 0 0 74))]
abbrev LP : Type := (Nat × List (Option AV)) × List (Option AObj) × Bool × List Qst × List Qst
noncomputable def preR (q fr lk nL nT : Nat) (lT lL : AV) (FT FL : List AV) : Option LP := match runPs Tryz.prog none_ 400 3 ps (T0 fr lk lT lL) (sZ FT FL) [.val 3 1 2 (.int .i64 (Int.ofNat nL)), .val 3 1 3 (.bool false), .val 3 1 7 (.int .i64 (Int.ofNat nT)), .val 3 1 8 (.bool false), .val 3 5 3 (.int .u8 (Int.ofNat q))] with
  | some (⟨_, ts1, s1⟩, _, q1) => match runX Tryz.prog none_ 60 3 (.code cI ts1 s1) [] with
    | some (⟨.normal, ts2, s2⟩, _, q2) => some (look9 ts2, (tab q fr lk lT lL FT FL).map (fun y => s2.get y.1), s2.h.bs.all (fun y => Nat.blt y.1 s2.nx), q1, q2)
    | _ => none
  | none => none
def sB (fr lk : Nat) (lT lL : AV) (FT FL : List AV) : AS := ⟨⟨[(5, .cells false [.int .u8 (Int.ofNat fr), lT, .int .u8 (Int.ofNat lk), lL]), (4, .cells true FL), (3, .cells true FT), (1, .cells true wfB), (2, .cells true wfP), (0, .cells true wfW)], 6, none, []⟩, 6⟩
def preQ (q fr lk nL nT : Nat) (lT lL : AV) (FT FL : List AV) : List Qst := [.ln 22 (sB fr lk lT lL FT FL) lL (.int .i64 (Int.ofNat nL)), .val (some (.bool (decide (Int.ofNat nL > 900)))) (.bool false), .ln 22 (sB fr lk lT lL FT FL) lT (.int .i64 (Int.ofNat nT)), .val (some (.bool (Int.ofNat nT == 0))) (.bool false), .val (some (.int .u8 (Int.ofNat (fr % 3)))) (.int .u8 (Int.ofNat q))]
def slots : List (Option AV) := [some (.ptr 5 0), some (.bool false), some (.ptr 7 0), some (.ptr 8 0), some (.slice 25 0 4 4), some .nilPtr, some (.int .u8 (Int.ofNat 1)), some (.int .i64 (Int.ofNat 0)), some (.int .i64 (Int.ofNat 0))]
theorem pre_run (fr lk nL nT : Nat) (lT lL : AV) (FT FL : List AV) : ∀ q, q < 3 → preR q fr lk nL nT lT lL FT FL = some ((124, slots), (tab q fr lk lT lL FT FL).map (fun y => some y.2), true, preQ q fr lk nL nT lT lL FT FL, [])
  | 0, _ => by kernel_rfl
  | 1, _ => by kernel_rfl
  | 2, _ => by kernel_rfl
  | q + 3, h => absurd h (by omega)
theorem lt_all {B : Nat} (hB : 0 < B) {a : A3} : ∀ {ms : MS}, ms.all (fun x => Nat.blt x.2 B) = true → getW ms a < B
  | [], _ => hB
  | x :: t, h => by
    simp only [List.all_cons, Bool.and_eq_true] at h
    simp only [getW]
    split
    · exact Nat.blt_eq ▸ h.1
    · exact lt_all hB h.2
def wiB (q : Nat) : Bool := (MP q).ms.all (fun x => Nat.blt x.2 18446744073709551616) && (decide (getW (MP q).ms aP = ofp 0 (scN q) 0 NN) && (decide (getW (MP q).ms aBl = 1) && (decide (getW (MP q).ms aEp = 0) && (decide (getW (MP q).ms aEra = 0) && ((List.range 4).all fun k => decide (getW (MP q).ms (aT k 0) = 1 ∧ getW (MP q).ms (aT k 6) = 0 ∧ getW (MP q).ms (aT k 2) = NN))))))
theorem wi_run : ∀ q, q < 3 → wiB q = true
  | 0, _ => by kernel_rfl
  | 1, _ => by kernel_rfl
  | 2, _ => by kernel_rfl
  | q + 3, h => absurd h (by omega)
def ts0 : Nat → TS := fun _ => ⟨0, 0, 0⟩
theorem wi0 {q : Nat} (hq : q < 3) : WI (MP q) 0 (scN q) 0 NN 0 ts0 := by
  have h := wi_run q hq
  simp only [wiB, Bool.and_eq_true] at h
  obtain ⟨h1, h2, h3, h4, h5, h6⟩ := h
  refine ⟨⟨of_decide_eq_true h2, by decide, by decide, ?_⟩, of_decide_eq_true h3, of_decide_eq_true h4, of_decide_eq_true h5, fun x => lt_all (by decide) h1, fun k hk => ?_⟩
  · simp [mayP, sc_sg]
  · obtain ⟨e1, e2, e3⟩ := of_decide_eq_true (List.all_eq_true.1 h6 k (List.mem_range.2 hk))
    have no : ¬ 2 ≤ (ts0 k).st := by show ¬ 2 ≤ 0; decide
    exact ⟨by show 0 ≤ 16 ∧ 0 ≠ 9; decide, fun h => absurd h no, fun h => absurd h no, e1, fun _ => rfl, e2, by rw [e3]; exact aged_self (by decide), fun h => absurd h no, fun h => absurd h no, fun h => absurd h no⟩
def psi0 (j b : Nat) : Nat := if b = 7 then 7 else if b = 8 then 6 else if b = 10 then 27 + 16 * j else if b = 11 then 26 + 16 * j else b
def w0 (b : Nat) : Nat := if b = 7 then 7 else if b = 8 then 6 else b
def Ks0 : List Nat := [5, 8, 4, 3, 25]
theorem lay0 {q fr lk : Nat} {lT lL : AV} {FT FL : List AV} {s : AS} (hs : ∀ y ∈ tab q fr lk lT lL FT FL, s.get y.1 = some y.2) (hk : s.h.bs.all (fun y => Nat.blt y.1 s.nx) = true) : LayW (MP q) ts0 [] s w0 psi0 25 Ks0 := by
  have keys : ∀ k ∈ s.h.bs.map (·.1), k < s.nx := fun k hk' => by
    obtain ⟨y, hy, rfl⟩ := List.mem_map.1 hk'
    exact Nat.blt_eq ▸ List.all_eq_true.1 hk y hy
  have t0 := hs (0, .cells true wfW) (by simp [tab])
  have t1 := hs (1, .cells true wfB) (by simp [tab])
  have t2 := hs (2, .cells true wfP) (by simp [tab])
  have t6 := hs (6, mapO (MP q).ms) (by simp [tab])
  have t7 := hs (7, .cells false ((MP q).C (.map 6))) (by simp [tab])
  have t25 := hs (25, .cells false R0) (by simp [tab])
  have tg : ∀ k, k < 4 → s.get (27 + 16 * k) = some (.cells false (gC k false 0 0 (26 + 16 * k))) := fun k hk => by
    match k, hk with
    | 0, _ => exact hs (27, .cells false (gC 0 false 0 0 26)) (by simp [tab])
    | 1, _ => exact hs (43, .cells false (gC 1 false 0 0 42)) (by simp [tab])
    | 2, _ => exact hs (59, .cells false (gC 2 false 0 0 58)) (by simp [tab])
    | 3, _ => exact hs (75, .cells false (gC 3 false 0 0 74)) (by simp [tab])
  have hc : ∀ j, j < 4 → CW ts0 [] j = [(10, gO j false 0 0)] := fun j hj => by
    unfold CW
    rw [if_pos hj]
    rfl
  have h4 : CW ts0 [] 4 = [] := rfl
  have nm : ∀ j, j < 5 → ∀ x ∈ CW ts0 [] j, x.1 = 10 ∧ j < 4 := fun j hj x hx => by
    by_cases e : j < 4
    · rw [hc j e] at hx
      simp only [List.mem_cons, List.not_mem_nil, or_false] at hx
      rw [hx]
      exact ⟨rfl, e⟩
    · obtain rfl : j = 4 := by omega
      cases hx
  have nmm : ∀ x ∈ memP (MP q), x.1 = 7 ∨ x.1 = 8 := fun x hx => by
    simp only [memP, List.mem_cons, List.not_mem_nil, or_false] at hx
    rcases hx with rfl | rfl
    · exact .inl rfl
    · exact .inr rfl
  have p7 : ∀ j, psi0 j 7 = 7 := fun j => rfl
  have p8 : ∀ j, psi0 j 8 = 6 := fun j => rfl
  have p10 : ∀ j, psi0 j 10 = 27 + 16 * j := fun j => rfl
  have all : ∀ j, j < 5 → ∀ x ∈ memP (MP q) ++ CW ts0 [] j, (x.1 = 7 ∧ psi0 j x.1 = 7) ∨ (x.1 = 8 ∧ psi0 j x.1 = 6) ∨ (x.1 = 10 ∧ j < 4 ∧ psi0 j x.1 = 27 + 16 * j) := fun j hj x hx => by
    rcases List.mem_append.1 hx with hx | hx
    · rcases nmm x hx with e | e
      · exact .inl ⟨e, by rw [e]; rfl⟩
      · exact .inr (.inl ⟨e, by rw [e]; rfl⟩)
    · exact .inr (.inr ⟨(nm j hj x hx).1, (nm j hj x hx).2, by rw [(nm j hj x hx).1]; rfl⟩)
  have lts : 75 < s.nx := keys 75 (getB_mem (hs (75, .cells false (gC 3 false 0 0 74)) (by simp [tab])))
  refine ⟨⟨fun j hj => ⟨fun g hg => ?_, fun x hx => ?_, fun b hb x hx => ?_, fun b hb c hc e => ?_, eachX_all fun x hx => ?_, keys⟩, fun j hj x hx => ?_, fun j hj k hk hjk x hx y hy => ?_, fun c hc => ⟨?_, fun j hj x hx => ?_⟩⟩, ⟨by simp [Ks0], by decide⟩, ⟨R0, t25, rfl, fun k hk => ?_, fun k hk => ?_, fun k hk => ?_⟩, fun k hk => .inl (Nat.zero_le _), (fun y hy => by cases hy), keys⟩
  · rw [glN] at hg
    unfold psi0
    rw [if_neg (by omega), if_neg (by omega), if_neg (by omega), if_neg (by omega)]
  · simp only [GF, List.mem_cons, List.not_mem_nil, or_false] at hx
    rcases hx with rfl | rfl | rfl
    · exact ⟨true, t0⟩
    · exact ⟨true, t1⟩
    · exact ⟨true, t2⟩
  · obtain ⟨y, hy, rfl⟩ := List.mem_map.1 hb
    have h3 := (gz x hx).1
    have e : psi0 j x.1 = x.1 := by
      unfold psi0
      rw [if_neg (by omega), if_neg (by omega), if_neg (by omega), if_neg (by omega)]
    rw [e]
    rcases all j hj y hy with h | h | h <;> omega
  · obtain ⟨y, hy, rfl⟩ := List.mem_map.1 hb
    obtain ⟨z, hz, rfl⟩ := List.mem_map.1 hc
    rcases all j hj y hy with h | h | h <;> rcases all j hj z hz with h' | h' | h' <;> omega
  · rcases List.mem_append.1 hx with hx | hx
    · simp only [memP, List.mem_cons, List.not_mem_nil, or_false] at hx
      rcases hx with rfl | rfl
      · exact t7
      · show s.get 6 = _
        rw [mapO_ren]
        exact t6
    · have h := nm j hj x hx
      rw [hc j h.2] at hx
      simp only [List.mem_cons, List.not_mem_nil, or_false] at hx
      subst hx
      exact tg j h.2
  · rcases nmm x hx with e | e <;> rw [e] <;> rfl
  · have h1 := nm j hj x hx
    have h2 := nm k hk y hy
    rw [h1.1, h2.1, p10, p10]
    omega
  · simp only [Ks0, List.mem_cons, List.not_mem_nil, or_false] at hc
    omega
  · simp only [Ks0, List.mem_cons, List.not_mem_nil, or_false] at hc
    rcases all j hj x hx with h | h | h <;> omega
  · match k, hk with
    | 0, _ => rfl
    | 1, _ => rfl
    | 2, _ => rfl
    | 3, _ => rfl
  · match k, hk with
    | 0, _ => rfl
    | 1, _ => rfl
    | 2, _ => rfl
    | 3, _ => rfl
  · match k, hk with
    | 0, _ => rfl
    | 1, _ => rfl
    | 2, _ => rfl
    | 3, _ => rfl
end Go.Proofs.YtcnfblibfndepaaGreatDoor.ctlsCover
