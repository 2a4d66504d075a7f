/- The law, called. Conditions: those that each theorem names, and no others. -/
import Derived.Test.YtimnagafechmbaaGreatDoorOrph14
namespace Go.Proofs.YtimnagafechmbaaGreatDoor.scansOrphans
open Go Go.Mini Go.Mini.Fast
/-! ### the law, called -/
def TV (f : Nat → AV) : List AV := [f 0, f 1, f 2, f 3, f 4, f 5, f 6, f 7, f 8, f 9, f 10, f 11, f 12, f 13, f 14, f 15, f 16, f 17, f 18, f 19, f 20, f 21, f 22, f 23, f 24, f 25, f 26, f 27, f 28, f 29, f 30, f 31, f 32, f 33, f 34, f 35, f 36, f 37, f 38, f 39, f 40, f 41, f 42, f 43, f 44, f 45, f 46, f 47, f 48, f 49, f 50, f 51, f 52, f 53, f 54, f 55, f 56, f 57, f 58, f 59, f 60, f 61, f 62, f 63, f 64, f 65, f 66, f 67, f 68, f 69, f 70, f 71, f 72, f 73, f 74, f 75, f 76, f 77, f 78, f 79, f 80, f 81, f 82, f 83, f 84, f 85, f 86, f 87, f 88, f 89, f 90, f 91, f 92, f 93, f 94, f 95, f 96, f 97, f 98, f 99, f 100, f 101, f 102, f 103, f 104, f 105, f 106, f 107, f 108, f 109, f 110, f 111, f 112, f 113, f 114, f 115, f 116, f 117, f 118, f 119, f 120, f 121, f 122, f 123, f 124, f 125, f 126, f 127, f 128, f 129, f 130, f 131, f 132, f 133, f 134, f 135, f 136, f 137, f 138, f 139, f 140, f 141]
theorem TV_of {T : List AV} (hl : T.length = 142) : T = TV (fun k => T.getD k undefA) := by
  have e : ∀ k, k < 142 → T[k]? = some (T.getD k undefA) := fun k hk => by
    rw [List.getD_eq_getElem?_getD, List.getElem?_eq_getElem (by omega)]
    rfl
  refine List.ext_getElem? fun k => ?_
  by_cases hk : k < 142
  · match k, hk with
    | 0, _ => exact e 0 (by decide)
    | 1, _ => exact e 1 (by decide)
    | 2, _ => exact e 2 (by decide)
    | 3, _ => exact e 3 (by decide)
    | 4, _ => exact e 4 (by decide)
    | 5, _ => exact e 5 (by decide)
    | 6, _ => exact e 6 (by decide)
    | 7, _ => exact e 7 (by decide)
    | 8, _ => exact e 8 (by decide)
    | 9, _ => exact e 9 (by decide)
    | 10, _ => exact e 10 (by decide)
    | 11, _ => exact e 11 (by decide)
    | 12, _ => exact e 12 (by decide)
    | 13, _ => exact e 13 (by decide)
    | 14, _ => exact e 14 (by decide)
    | 15, _ => exact e 15 (by decide)
    | 16, _ => exact e 16 (by decide)
    | 17, _ => exact e 17 (by decide)
    | 18, _ => exact e 18 (by decide)
    | 19, _ => exact e 19 (by decide)
    | 20, _ => exact e 20 (by decide)
    | 21, _ => exact e 21 (by decide)
    | 22, _ => exact e 22 (by decide)
    | 23, _ => exact e 23 (by decide)
    | 24, _ => exact e 24 (by decide)
    | 25, _ => exact e 25 (by decide)
    | 26, _ => exact e 26 (by decide)
    | 27, _ => exact e 27 (by decide)
    | 28, _ => exact e 28 (by decide)
    | 29, _ => exact e 29 (by decide)
    | 30, _ => exact e 30 (by decide)
    | 31, _ => exact e 31 (by decide)
    | 32, _ => exact e 32 (by decide)
    | 33, _ => exact e 33 (by decide)
    | 34, _ => exact e 34 (by decide)
    | 35, _ => exact e 35 (by decide)
    | 36, _ => exact e 36 (by decide)
    | 37, _ => exact e 37 (by decide)
    | 38, _ => exact e 38 (by decide)
    | 39, _ => exact e 39 (by decide)
    | 40, _ => exact e 40 (by decide)
    | 41, _ => exact e 41 (by decide)
    | 42, _ => exact e 42 (by decide)
    | 43, _ => exact e 43 (by decide)
    | 44, _ => exact e 44 (by decide)
    | 45, _ => exact e 45 (by decide)
    | 46, _ => exact e 46 (by decide)
    | 47, _ => exact e 47 (by decide)
    | 48, _ => exact e 48 (by decide)
    | 49, _ => exact e 49 (by decide)
    | 50, _ => exact e 50 (by decide)
    | 51, _ => exact e 51 (by decide)
    | 52, _ => exact e 52 (by decide)
    | 53, _ => exact e 53 (by decide)
    | 54, _ => exact e 54 (by decide)
    | 55, _ => exact e 55 (by decide)
    | 56, _ => exact e 56 (by decide)
    | 57, _ => exact e 57 (by decide)
    | 58, _ => exact e 58 (by decide)
    | 59, _ => exact e 59 (by decide)
    | 60, _ => exact e 60 (by decide)
    | 61, _ => exact e 61 (by decide)
    | 62, _ => exact e 62 (by decide)
    | 63, _ => exact e 63 (by decide)
    | 64, _ => exact e 64 (by decide)
    | 65, _ => exact e 65 (by decide)
    | 66, _ => exact e 66 (by decide)
    | 67, _ => exact e 67 (by decide)
    | 68, _ => exact e 68 (by decide)
    | 69, _ => exact e 69 (by decide)
    | 70, _ => exact e 70 (by decide)
    | 71, _ => exact e 71 (by decide)
    | 72, _ => exact e 72 (by decide)
    | 73, _ => exact e 73 (by decide)
    | 74, _ => exact e 74 (by decide)
    | 75, _ => exact e 75 (by decide)
    | 76, _ => exact e 76 (by decide)
    | 77, _ => exact e 77 (by decide)
    | 78, _ => exact e 78 (by decide)
    | 79, _ => exact e 79 (by decide)
    | 80, _ => exact e 80 (by decide)
    | 81, _ => exact e 81 (by decide)
    | 82, _ => exact e 82 (by decide)
    | 83, _ => exact e 83 (by decide)
    | 84, _ => exact e 84 (by decide)
    | 85, _ => exact e 85 (by decide)
    | 86, _ => exact e 86 (by decide)
    | 87, _ => exact e 87 (by decide)
    | 88, _ => exact e 88 (by decide)
    | 89, _ => exact e 89 (by decide)
    | 90, _ => exact e 90 (by decide)
    | 91, _ => exact e 91 (by decide)
    | 92, _ => exact e 92 (by decide)
    | 93, _ => exact e 93 (by decide)
    | 94, _ => exact e 94 (by decide)
    | 95, _ => exact e 95 (by decide)
    | 96, _ => exact e 96 (by decide)
    | 97, _ => exact e 97 (by decide)
    | 98, _ => exact e 98 (by decide)
    | 99, _ => exact e 99 (by decide)
    | 100, _ => exact e 100 (by decide)
    | 101, _ => exact e 101 (by decide)
    | 102, _ => exact e 102 (by decide)
    | 103, _ => exact e 103 (by decide)
    | 104, _ => exact e 104 (by decide)
    | 105, _ => exact e 105 (by decide)
    | 106, _ => exact e 106 (by decide)
    | 107, _ => exact e 107 (by decide)
    | 108, _ => exact e 108 (by decide)
    | 109, _ => exact e 109 (by decide)
    | 110, _ => exact e 110 (by decide)
    | 111, _ => exact e 111 (by decide)
    | 112, _ => exact e 112 (by decide)
    | 113, _ => exact e 113 (by decide)
    | 114, _ => exact e 114 (by decide)
    | 115, _ => exact e 115 (by decide)
    | 116, _ => exact e 116 (by decide)
    | 117, _ => exact e 117 (by decide)
    | 118, _ => exact e 118 (by decide)
    | 119, _ => exact e 119 (by decide)
    | 120, _ => exact e 120 (by decide)
    | 121, _ => exact e 121 (by decide)
    | 122, _ => exact e 122 (by decide)
    | 123, _ => exact e 123 (by decide)
    | 124, _ => exact e 124 (by decide)
    | 125, _ => exact e 125 (by decide)
    | 126, _ => exact e 126 (by decide)
    | 127, _ => exact e 127 (by decide)
    | 128, _ => exact e 128 (by decide)
    | 129, _ => exact e 129 (by decide)
    | 130, _ => exact e 130 (by decide)
    | 131, _ => exact e 131 (by decide)
    | 132, _ => exact e 132 (by decide)
    | 133, _ => exact e 133 (by decide)
    | 134, _ => exact e 134 (by decide)
    | 135, _ => exact e 135 (by decide)
    | 136, _ => exact e 136 (by decide)
    | 137, _ => exact e 137 (by decide)
    | 138, _ => exact e 138 (by decide)
    | 139, _ => exact e 139 (by decide)
    | 140, _ => exact e 140 (by decide)
    | 141, _ => exact e 141 (by decide)
    | k + 142, h => exact absurd h (by omega)
  · rw [List.getElem?_eq_none (by omega), List.getElem?_eq_none (show 142 ≤ k by omega)]
theorem r20_run (f : Nat → AV) (s : AS) : runX Tryz.prog none_ 60 3 (.code cR20 (TV f) s) [] = some ({ e := AExit.normal, ts := [f 0, f 1, f 2, f 3, f 4, f 5, f 6, f 7, f 8, f 9, f 10, f 11, f 12, f 13, AV.int IntKind.i64 (Int.ofNat 0), f 15, f 16, f 17, f 18, f 19, f 20, f 21, f 22, f 23, f 24, f 25, f 26, f 27, f 28, f 29, f 30, f 31, f 32, f 33, f 34, f 35, f 36, f 37, f 38, f 39, f 40, f 41, f 42, f 43, f 44, f 45, f 46, f 47, f 48, f 49, f 50, f 51, f 52, f 53, f 54, f 55, f 56, f 57, f 58, f 59, f 60, f 61, f 62, f 63, f 64, f 65, f 66, f 67, f 68, f 69, f 70, f 71, f 72, f 73, f 74, f 75, f 76, f 77, f 78, f 79, f 80, f 81, f 82, f 83, f 84, f 85, f 86, f 87, f 88, f 89, f 90, f 91, f 92, f 93, f 94, f 95, f 96, f 97, f 98, f 99, f 100, f 101, f 102, f 103, f 104, f 105, f 106, f 107, f 108, f 109, f 110, f 111, f 112, f 113, f 114, f 115, f 116, f 117, f 118, f 119, f 120, f 121, f 122, f 123, f 124, f 125, f 126, f 127, f 128, f 129, f 130, f 131, f 132, f 133, f 134, f 135, f 136, f 137, f 138, f 139, f 140, f 141], s := s }, [], []) := by kernel_rfl
noncomputable def shR (mb ln : Nat) (l0 : AV) (F : List AV) : Option (Res × List Dec × List Qst) := runX Tryz.prog hkL 100 3 (.code lawC (T0 mb l0) (sL F)) [.val 3 1 1 (.int .i64 (Int.ofNat ln)), .val 3 1 2 (.bool true)]
theorem sh_run (mb ln : Nat) (l0 : AV) (F : List AV) : (shR mb ln l0 F).map (fun x => (x.1.e, x.1.ts[4]?, x.2.2)) = some (.ret, some (.bool true), [.ln 22 (sL F) l0 (.int .i64 (Int.ofNat ln)), .val (some (.bool (decide (Int.ofNat ln > 500)))) (.bool true)]) := by kernel_rfl
theorem seesT_two {c : Code} {n mb b tw i : Nat} {l0 : AV} {j : Nat → AV} {s : AS} {π : Nat → Nat} {r : Res} (hj : ∀ k, junkable (j k) = true) (hl0 : junkable l0 = true) (h6 : π 6 = tw) (h60 : π 60 = erN n)
    (h : Sound Tryz.prog (.code c (rens π (TC n fun k => junkOf ((TL mb l0 b n (enN n) tw i j).getD k undefA))) s) r) : Sound Tryz.prog (.code c (TL mb l0 b n (enN n) tw i j) s) r := by
  refine Sound.enter h ?_
  subst h6
  have he : (enC n).ren π = enN n := by
    cases n with
    | zero => rfl
    | succ n =>
      show AV.osl (π 60) 0 (n + 1) 6 = _
      rw [h60]
      rfl
  have hen : ∀ y : AV, y = enN n → ((enC n).ren π).names (fun _ => true) = true ∧ y = ((enC n).ren π).ren (fun b => b) := fun y hy => ⟨by cases n <;> rfl, by rw [he, ren_id]; exact hy⟩
  repeat (first | exact rfl | refine ⟨_, _, rfl, ?_, ?_⟩ | exact .inl ⟨junk_ren _ _, hj _⟩ | exact .inl ⟨junk_ren _ _, hl0⟩ | exact .inr (hen _ rfl) | exact .inr ⟨rfl, rfl⟩ | exact .inl ⟨junk_ren _ _, rfl⟩)
theorem end_at {n hw m1 m2 mb b tw i : Nat} {l0 : AV} {M : PM} {s : AS} {π π2 : Nat → Nat} {j : Nat → AV} (hT : TwoP n hw false (.dn m1) (.dn m2) M s b tw (KsN n) π π2) (hG : GI n hw (.dn m1) (.dn m2) M) (he : enB n ≠ [] → s.get (erN n) = some (.cells false (ents n))) (hj : ∀ k, junkable (j k) = true) (hl0 : junkable l0 = true) :
    ∃ ts s2, tget ts 4 = .bool true ∧ Sound Tryz.prog (.code cRest (TL mb l0 b n (enN n) tw i j) s) ⟨.ret, ts, s2⟩ := by
  have A := joint hT he
  have jn : ∀ (k : Nat) (p : Nat → Bool), ((fun k => junkOf ((TL mb l0 b n (enN n) tw i j).getD k undefA)) k).names p = true := fun k p => junk_names p _
  have fin : ∀ (K : Kan Tryz.prog (hE n m1 m2) Fz0 70), eEO n m1 m2 (fun k => junkOf ((TL mb l0 b n (enN n) tw i j).getD k undefA)) → ∃ ts s2, tget ts 4 = .bool true ∧ Sound Tryz.prog (.code cRest (TL mb l0 b n (enN n) tw i j) s) ⟨.ret, ts, s2⟩ := fun K h => by
    obtain ⟨ts, s2, h1, h2⟩ := end_place jn K A h
    exact ⟨ts, s2, h1, seesT_two (π := p3 π π2 (erN n)) hj hl0 hT.m6.1 rfl h2⟩
  have o1 : m1 = 0 ∨ m1 = n := hG.okl
  have o2 : m2 = 0 ∨ m2 = n := hG.oko
  rcases hG.orp with ⟨_, _, _, h4, _⟩ | ⟨_, _, ⟨h3, h4, h5⟩ | ⟨h3, h4, h5⟩ | ⟨h3, h4, h5⟩⟩
  · have : kd m1 = 0 := h4
    unfold kd at this
    split at this <;> cases this
  · subst h3
    obtain rfl : m1 = 0 := by omega
    obtain rfl : m2 = 0 := by omega
    exact fin kan_0 (e_0 _)
  · have h4 : m1 ≠ 0 := kd2 h4
    have h5 : m2 = 0 := kd_ne h5
    obtain rfl : m1 = n := by omega
    subst h5
    obtain ⟨k, rfl⟩ : ∃ k, m1 = k + 1 := ⟨m1 - 1, by omega⟩
    exact fin (kan_a k) (e_a _ (k + 1) (by omega) hG.hn)
  · have h4 : m1 = 0 := kd_ne h4
    have h5 : m2 ≠ 0 := kd2 h5
    obtain rfl : m2 = n := by omega
    subst h4
    obtain ⟨k, rfl⟩ : ∃ k, m2 = k + 1 := ⟨m2 - 1, by omega⟩
    exact fin (kan_b k) (e_b _ (k + 1) (by omega) hG.hn)
theorem two_in (n : Nat) : 2 ∈ KsN n := by cases n <;> simp [KsN]
theorem en_junk (n : Nat) : junkable (enN n) = true := by cases n <;> rfl
theorem law_call {F : List AV} {l0 : AV} {bs : List Nat} (W : RwC l0 F bs) (hl0 : junkable l0 = true) (mb : Nat) : ∃ e s1, Sound Tryz.prog (.call 3 [.int .u8 (Int.ofNat mb), l0] (sL F)) ⟨e, [.bool true], s1⟩ := by
  have res : Tryz.f3.results.toList = [ResultVar.tmp 4] := by kernel_rfl
  have nt : Tryz.f3.ntmps = 142 := by kernel_rfl
  suffices H : ∃ ts s1, tget ts 4 = .bool true ∧ Sound Tryz.prog (.code lawC (T0 mb l0) (sL F)) ⟨.ret, ts, s1⟩ by
    obtain ⟨ts, s1, ht, h⟩ := H
    refine ⟨.ret, s1, call_whole (fn := Tryz.f3) (c := lawC) (ts := ts) (vs := [.bool true]) Tryz.func3 law_body ?_ (.inr rfl) ?_⟩
    · rw [nt]
      exact h
    · rw [res]
      simp only [resultsA, resultA, ht]
  by_cases b1 : bs.length ≤ 500
  case neg =>
    have h := sh_run mb bs.length l0 F
    cases hr : shR mb bs.length l0 F with
    | none => rw [hr] at h; cases h
    | some x =>
      rw [hr] at h
      obtain ⟨⟨e, ts, s1⟩, ds', q'⟩ := x
      simp only [Option.map_some, Option.some.injEq, Prod.mk.injEq] at h
      obtain ⟨rfl, h2, rfl⟩ := h
      refine ⟨ts, s1, ?_, runX_sound mixed hkL_ok hr ⟨W.len _, by rw [Qst.ok, show decide (Int.ofNat bs.length > 500) = true from decide_eq_true (by simp only [Int.ofNat_eq_natCast]; omega)], trivial⟩⟩
      show (ts[4]?).getD undefA = _
      rw [h2]
      rfl
  obtain ⟨ts, s, ⟨h1, h1b⟩, h2, h3, h4, hgo⟩ := pre_sound (mb := mb) (ln := bs.length) (l0 := l0) (F := F) (n := mb % 9) (Nat.mod_lt _ (by omega)) rfl W.len b1
  have hn : mb % 9 < 9 := Nat.mod_lt _ (by omega)
  generalize mb % 9 = n at *
  simp only [preT, List.map_cons, List.map_nil, List.cons.injEq, and_true] at h2
  obtain ⟨k0, k1, k4, k5, k7, k8, k12, k19⟩ := h2
  have hjs : ∀ k, junkable (ts.getD k undefA) = true := fun k => by
    by_cases hk : k < 142
    · have := List.all_eq_true.1 h1b k (List.mem_range.2 hk)
      simp only [Bool.or_eq_true] at this
      rcases this with e | e | e
      · rw [Nat.eq_of_beq_eq_true e, List.getD_eq_getElem?_getD, k1]
        exact hl0
      · rw [Nat.eq_of_beq_eq_true e, List.getD_eq_getElem?_getD, k19]
        exact hl0
      · exact e
    · rw [List.getD_eq_getElem?_getD, List.getElem?_eq_none (by omega)]
      rfl
  have gd : ∀ {k : Nat} {v : AV}, ts[k]? = some v → some (ts.getD k undefA) = some v := fun h => by rw [List.getD_eq_getElem?_getD, h]; rfl
  have hr := runX_sound mixed none_sound (r20_run (fun k => ts.getD k undefA) s) trivial
  rw [← TV_of h1] at hr
  obtain ⟨j, hjj, h20⟩ := toTL (mb := mb) (l0 := l0) (b := 3) (n := n) (en := enN n) (tw := twN n) (i := 0) hr rfl (gd k0) (gd k1) (gd k4) (gd k5) (gd k7) (gd k8) (gd k12) rfl
  have hj := hjj (by
    repeat (first | exact hjs _ | refine all_cons' ?_ ?_ | exact rfl))
  have hT := two0 (n := n) (hw := 65552) (F := F) (s := s) h3 h4
  have hG := giB_t (n := n) (by omega) (gi_run n hn)
  obtain ⟨m1, m2, M', s', π', π2', j', hj', hL, hT', hG', hK⟩ := law_loop (n := n) (hw := 65552) (mb := mb) (b := 3) (tw := twN n) (l0 := l0) (en := enN n) W hl0 (en_junk n) b1 (two_in n) (bs.length + 4000) 0 (.t1 0) (.t1 0) (MG n) s _ _ j hj (by omega) (by omega) hT hG ⟨true, h3 (2, .cells true F) (by simp [tab])⟩ (fun k => .inr (by
    unfold DD
    rw [if_pos (Nat.zero_le _)]
    exact mu_le n 65552 (MG n) _))
  have her : enB n ≠ [] → s'.get (erN n) = some (.cells false (ents n)) := fun hne => by
    rw [hK _ (er_ks n)]
    cases n with
    | zero => exact absurd (show enB 0 = [] from rfl) hne
    | succ n => exact h3 (10 * n + 7, .cells false (ents (n + 1))) (by simp [tab, tabE])
  obtain ⟨ts2, s2, h5, h6⟩ := end_at (mb := mb) (i := bs.length + 4000) (l0 := l0) (j := j') hT' hG' her hj' hl0
  refine ⟨ts2, s2, h5, ?_⟩
  rw [law_eq]
  refine hgo _ _ (seq_next (seq_next h20 (block_exit hL rfl)) h6)
end Go.Proofs.YtimnagafechmbaaGreatDoor.scansOrphans
