/- What begins, and what was got; the lines, wherever they lie. Conditions: those that each theorem names, and no others. -/
import Derived.Test.YtofbdgmknfbkfaaGreatDoorLife11
namespace Go.Proofs.YtofbdgmknfbkfaaGreatDoor.nodesLife
open Go Go.Mini
/-! ### a Gone begins -/
def g_ng (k thr most g : Nat) (z : Int) (a b : Nat) : GD := ⟨34, [.agg [.ptr 10 0, i64 (Int.ofNat thr), i64 0, u32 most], refA z g], [(10, gdO k)], (10, gdO k) :: rtB thr most 1 z g 0 0 0, [(18, a), (19, b)], [a, b], .ptr a 0, [.val 62 2 6 (.bool false), .val 62 2 11 (.bool false)], [vQ (.bool (decide (z < 0))) (.bool false), vQ (.bool (decide (z ≥ 256))) (.bool false)]⟩
theorem k_ng (M : PM) (O : AObj) (k thr most g : Nat) (z : Int) : GdOk (g_ng k thr most g z 28 27) M M O O := ⟨by kernel_rfl, by kernel_rfl⟩
theorem ng_step {M : PM} {k thr most g z : Nat} (hz : z < 16) : SF 34 [.agg [.ptr 10 0, i64 (Int.ofNat thr), i64 0, u32 most], refA (Int.ofNat z) g] (.ptr 18 0) M M [(10, gdO k)] ((10, gdO k) :: rtB thr most 1 (Int.ofNat z) g 0 0 0) (kl [(18, 28), (19, 27)]) :=
  stp (k_ng M (mapO M.ms) k thr most g (Int.ofNat z)) (vn_ok (by simp only [Int.ofNat_eq_natCast]; omega) (vn_ok (by simp only [Int.ofNat_eq_natCast]; omega) trivial)) rfl
theorem na_step {M : PM} : SF 33 [] (.ptr 15 0) M M [] (bA 1 0 0) (kl [(15, 25), (16, 24)]) := stp (k_na M (mapO M.ms)) trivial rfl
theorem nf_step {M : PM} {most z : Nat} (hz : z < 16) : SF 35 [i64 (Int.ofNat z), u32 most] (.ptr 15 0) M M [] (fH 1 (Int.ofNat z) 0 false most) (kl [(15, 26), (16, 25), (17, 24)]) :=
  stp (k_nf M (mapO M.ms) most (Int.ofNat z)) (vb_ok (Int.natCast_nonneg _) (vb_ok (by simp only [Int.ofNat_eq_natCast]; omega) trivial)) rfl
theorem nm_step {M : PM} {g z : Nat} (hz : z < 16) : SF 21 [refA (Int.ofNat z) g, u64 1, u64 2] (.ptr 15 0) M M [] (mkB (Int.ofNat z) 0 3) (kl [(15, 29), (16, 28)]) :=
  stp (k_nm M (mapO M.ms) g (Int.ofNat z)) (vb_ok (Int.natCast_nonneg _) (vb_ok (by simp only [Int.ofNat_eq_natCast]; omega) trivial)) rfl
end Go.Proofs.YtofbdgmknfbkfaaGreatDoor.nodesLife
namespace Go.Proofs.YtofbdgmknfbkfaaGreatDoor.nodesLife
open Go Go.Mini
/-! ### what a Gone got -/
def g_t0 (thr most : Nat) : GD := ⟨39, [.ptr 18 0], [(18, goO thr most .nilPtr)], [], [], [], .nilSlice, [], []⟩
def g_ta (thr most y m : Nat) : GD := ⟨39, [.ptr 18 0], [(18, goO thr most (.ptr 9 0)), (9, scO most .nilIface y m sN .nilSlice .nilSlice)], [], [], [], .nilSlice, [], []⟩
def g_tb (thr most y m o k NN : Nat) (F : List AV) : GR := ⟨39, [.ptr 18 0], [(18, goO thr most (.ptr 9 0)), (9, scO most .nilIface y m sN (.slice 20 o 0 0) (.osl 21 0 k 3))], [], [(22, NN)], [NN], .slice NN 0 k k,
  [.eff 104 3 2 (.osl NN 0 k 3) (fun s => s.push (.cells false F)), .val 103 1 5 (.slice NN 0 k k)],
  [.app 49 49 (.slice (NN - 1) 0 0 0) (.osl 21 0 k 3) (.osl NN 0 k 3) (fun s => s.push (.cells false F)) NN [(21, .cells false F), (NN - 1, .cells false [])], .fix (.sli 49 (.osl NN 0 k 3) none (some (i64 (Int.ofNat k))) (some (i64 (Int.ofNat k))) (.slice NN 0 k k))],
  [(21, .cells false F)], [(21, .cells false F)], [(NN, .cells false F)], [(22, .cells false F)]⟩
theorem k_t0 (M : PM) (O : AObj) (thr most : Nat) : GdOk (g_t0 thr most) M M O O := ⟨by kernel_rfl, by kernel_rfl⟩
theorem k_ta (M : PM) (O : AObj) (thr most y m : Nat) : GdOk (g_ta thr most y m) M M O O := ⟨by kernel_rfl, by kernel_rfl⟩
theorem k_tb (M : PM) (O : AObj) (thr most y m o k : Nat) (F : List AV) : (g_tb thr most y m o k 25 F).L (mo7 M) O = (g_tb thr most y m o k 25 F).R (mo7 M) O (mo7 M) O := by kernel_rfl
theorem q_tb (thr most y m o k : Nat) (F : List AV) : (g_tb thr most y m o k 25 F).stat = true := by kernel_rfl
end Go.Proofs.YtofbdgmknfbkfaaGreatDoor.nodesLife
namespace Go.Proofs.YtofbdgmknfbkfaaGreatDoor.nodesLife
open Go Go.Mini
/-! ### what an Alloc got; the rows told -/
def g_ay (e g : Nat) (z : Int) : GD := ⟨37, [.ptr 15 0], bE e z g, [], [], [], .tuple [refA z g, .bool true], [], []⟩
def g_an (h : Nat) (x : Int) : GD := ⟨37, [.ptr 15 0], bA0 h x, [], [], [], .tuple [refA (Int.negSucc 0) 0, .bool false], [], []⟩
theorem k_ay (M : PM) (O : AObj) (e g : Nat) (z : Int) : GdOk (g_ay e g z) M M O O := ⟨by kernel_rfl, by kernel_rfl⟩
theorem k_an (M : PM) (O : AObj) (h : Nat) (x : Int) : GdOk (g_an h x) M M O O := ⟨by kernel_rfl, by kernel_rfl⟩
theorem uRs : Tryz.prog.underlying 49 = some (.slice 74) := by kernel_rfl
theorem tb_step {M : PM} {thr most y m o : Nat} {F : List RefP} (h0 : F ≠ []) (hl : F.length < 1000) : SF 39 [.ptr 18 0] (.slice 22 0 F.length F.length) M M ([(18, goO thr most (.ptr 9 0)), (9, scO most .nilIface y m sN (.slice 20 o 0 0) (.osl 21 0 F.length 3))] ++ [(21, .cells false (refsC F))]) ([] ++ [(22, .cells false (refsC F))]) (kl [(22, 25)]) := by
  have nR := refsC_names (fun _ => false) F
  refine gr_step (g := g_tb thr most y m o F.length 25 (refsC F)) (k_tb M (mapO M.ms) thr most y m o F.length (refsC F)) ⟨fun s hn hs => ?_, sli3 uRs zR, trivial⟩ (q_tb ..) rfl (fun x hx => ?_) (fun x hx => ?_) (fun x hx => ?_) (fun x hx => ?_)
  · have := app_all (s := s) (a := 24) (b := 21) rowR (hs (24, .cells false []) (by simp)) (hs (21, .cells false (refsC F)) (by simp)) (refsC_len F) (refsC_one F) (List.length_pos_iff.2 h0) (by omega)
    rw [hn] at this
    exact this
  · simp only [g_tb, List.mem_cons, List.not_mem_nil, or_false] at hx
    subst hx
    exact ⟨rfl, nR⟩
  · simp only [g_tb, List.mem_cons, List.not_mem_nil, or_false] at hx
    subst hx
    exact ⟨.inl rfl, nR⟩
  · simp only [g_tb, List.mem_cons, List.not_mem_nil, or_false] at hx
    subst hx
    exact ⟨rfl, nR⟩
  · simp only [g_tb, List.mem_cons, List.not_mem_nil, or_false] at hx
    subst hx
    exact nR
end Go.Proofs.YtofbdgmknfbkfaaGreatDoor.nodesLife
namespace Go.Proofs.YtofbdgmknfbkfaaGreatDoor.nodesLife
open Go Go.Mini
/-! ### Make's lines, and Retire's first five, wherever they lie -/
section
variable {M : PM} {z g b e r thr most : Nat}
theorem s_mk0 : SF 22 aA (.bool false) M (M.store (aZ z 5) 1) (mkB (Int.ofNat z) 0 3) (mkB (Int.ofNat z) 4 2) (kl []) :=
  stp (k_mk0 M (M.store (aZ z 5) 1) (mapO M.ms) (mapO (M.store (aZ z 5) 1).ms) (Int.ofNat z)) (mst_ok (a := aZ z 5) (show (0 : Int) ≤ 9 by decide) trivial) rfl
theorem s_mk1 : SF 22 aA (.bool false) M (M.store (aZ z 6) 2) (mkB (Int.ofNat z) 4 2) (mkB (Int.ofNat z) 8 1) (kl []) :=
  stp (k_mk1 M (M.store (aZ z 6) 2) (mapO M.ms) (mapO (M.store (aZ z 6) 2).ms) (Int.ofNat z)) (mst_ok (a := aZ z 6) (show (0 : Int) ≤ 9 by decide) trivial) rfl
theorem s_mk2 : SF 22 aA (.bool true) M (M.store (aZ z 7) 0) (mkB (Int.ofNat z) 8 1) (mkB (Int.ofNat z) 12 0) (kl []) :=
  stp (k_mk2 M (M.store (aZ z 7) 0) (mapO M.ms) (mapO (M.store (aZ z 7) 0).ms) (Int.ofNat z)) (mst_ok (a := aZ z 7) (show (0 : Int) ≤ 9 by decide) trivial) rfl
theorem s_r1 : SF 38 aG (.bool false) M (M.load aEp) (rtB thr most 1 (Int.ofNat z) g b e r) (rtB thr most 2 (Int.ofNat z) g b (getW M.ms aEp) r) (kl []) :=
  stp (k_r1 M (M.load aEp) (mapO M.ms) (getW M.ms aEp) e g most thr b r (Int.ofNat z)) (mld_ok trivial) rfl
theorem s_r2 : SF 38 aG (.bool false) M (M.load aEra) (rtB thr most 2 (Int.ofNat z) g b e r) (rtB thr most 3 (Int.ofNat z) g b e (getW M.ms aEra)) (kl []) :=
  stp (k_r2 M (M.load aEra) (mapO M.ms) (getW M.ms aEra) e g most thr b r (Int.ofNat z)) (mld_ok trivial) rfl
theorem s_r3 : SF 38 aG (.bool false) M (M.load (aZ z 1)) (rtB thr most 3 (Int.ofNat z) g b e r) (rtB thr most 4 (Int.ofNat z) g (getW M.ms (aZ z 1)) e r) (kl []) :=
  stp (k_r3 M (M.load (aZ z 1)) (mapO M.ms) (getW M.ms (aZ z 1)) e g most thr b r (Int.ofNat z)) (mld_ok (a := aZ z 1) trivial) rfl
theorem s_r4 : SF 38 aG (.bool false) M (M.store (aZ z 3) e) (rtB thr most 4 (Int.ofNat z) g b e r) (rtB thr most 5 (Int.ofNat z) g b e r) (kl []) :=
  stp (k_r4 M (M.store (aZ z 3) e) (mapO M.ms) (mapO (M.store (aZ z 3) e).ms) e g most thr b r (Int.ofNat z)) (mst_ok (a := aZ z 3) (show (0 : Int) ≤ 9 by decide) trivial) rfl
theorem s_r5 : SF 38 aG (.bool false) M (M.store (aZ z 4) r) (rtB thr most 5 (Int.ofNat z) g b e r) (rtB thr most 6 (Int.ofNat z) g b e r) (kl []) :=
  stp (k_r5 M (M.store (aZ z 4) r) (mapO M.ms) (mapO (M.store (aZ z 4) r).ms) e g most thr b r (Int.ofNat z)) (mst_ok (a := aZ z 4) (show (0 : Int) ≤ 9 by decide) trivial) rfl
end
end Go.Proofs.YtofbdgmknfbkfaaGreatDoor.nodesLife
namespace Go.Proofs.YtofbdgmknfbkfaaGreatDoor.nodesLife
open Go Go.Mini
/-! ### the scan's parts, wherever they lie -/
theorem gj_step {g : GD} {M M2 : PM} {v : AV} (h : g.LJ (.cells false (M.C (.map 8))) (mapO M.ms) = g.RJ (.cells false (M.C (.map 8))) (mapO M.ms) (.cells false (M2.C (.map 8))) (mapO M2.ms))
    (hq : QOk g.qs) (hs : g.stat = true) (hw : g.w = v.ren (kl g.kl)) :
    StepF Tryz.prog GF 24 g.f g.args v (memP M ++ g.C) (memP M2 ++ g.C') (kl g.kl) := by
  simp only [GD.stat, Bool.and_eq_true] at hs
  obtain ⟨a1, a2, a3, a4, a5, a6, a7, a8, a9⟩ := hs
  unfold GD.LJ GD.RJ at h
  cases hr : g.runJ (.cells false (M.C (.map 8))) (mapO M.ms) with
  | none => rw [hr] at h; cases h
  | some x =>
    rw [hr] at h
    obtain ⟨⟨e, ts, s1⟩, ds', q'⟩ := x
    simp only [Option.some.injEq, GD.lk, GD.want, Prod.mk.injEq, Bool.and_eq_true] at h
    obtain ⟨h1, ⟨h7, h8⟩, h2, ⟨h3, h4⟩, h5, h6⟩ := h
    have hQ : Qsts Tryz.prog q' := qsts_of h5 h6 hq
    subst h1
    have hrun := runGF_ok mixed none_sound hr hQ
    have b1 : ∀ y ∈ g.C, 9 ≤ y.1 ∧ y.1 < 24 ∧ y.2.rw = true ∧ y.2.names (fun c => Nat.blt c 24) = true := fun y hy => by
      have := List.all_eq_true.1 a1 y hy
      simp only [Bool.and_eq_true] at this
      exact ⟨Nat.le_of_ble_eq_true this.1, Nat.blt_eq ▸ this.2.1, this.2.2.1, this.2.2.2⟩
    have b4 : ∀ b ∈ g.new, 24 ≤ b := fun b hb => Nat.le_of_ble_eq_true (List.all_eq_true.1 a4 b hb)
    have b5 : ∀ y ∈ g.C', 9 ≤ y.1 ∧ (kl g.kl y.1 ∈ g.C.map (·.1) ∨ kl g.kl y.1 ∈ g.new) := fun y hy => by
      have := List.all_eq_true.1 a5 y hy
      simp only [Bool.and_eq_true, Bool.or_eq_true] at this
      exact ⟨Nat.le_of_ble_eq_true this.1, this.2.imp inB_iff.1 inB_iff.1⟩
    have lows : ∀ b, b < 9 → kl g.kl b = b := fun b hb => kl_low a7 hb
    have nd : ((memP M ++ g.C).map (·.1)).Nodup := by
      show (7 :: 8 :: g.C.map (·.1)).Nodup
      refine List.nodup_cons.2 ⟨fun hm => ?_, List.nodup_cons.2 ⟨fun hm => ?_, nodB_ok a2⟩⟩
      · rcases List.mem_cons.1 hm with e | hm
        · cases e
        · obtain ⟨y, hy, e⟩ := List.mem_map.1 hm
          have := b1 y hy
          omega
      · obtain ⟨y, hy, e⟩ := List.mem_map.1 hm
        have := b1 y hy
        omega
    have o7 : objAt s1 7 = .cells false (M2.C (.map 8)) := by simp [objAt, h7]
    have o8 : objAt s1 8 = mapO M2.ms := by simp [objAt, h8]
    refine step_mk (n0 := g.C.length + 4) hrun g.new ⟨by rw [glN]; decide, eachX_all fun x hx => ?_, nd, fun x hx => ?_⟩ (nodB_ok a3) (fun b hb => ?_) (fun c hc => lows c (by rw [glN] at hc; omega)) (fun x hx => lows x.1 (by have := (gz x hx).1; omega)) (eachX_all fun x hx => ?_) (fun b hb c hc e => ?_) a8 (eachX_all fun x hx => ?_) a9 hw
    · have hg := getB_of nd x hx
      rcases List.mem_append.1 hx with h | h
      · simp only [memP, List.mem_cons, List.not_mem_nil, or_false] at h
        rcases h with rfl | rfl
        · exact ⟨show 7 < 24 by decide, rfl, rfl, hg⟩
        · exact ⟨show 8 < 24 by decide, rfl, mapO_names _ _, hg⟩
      · obtain ⟨_, c2, c3, c4⟩ := b1 x h
        exact ⟨c2, c3, c4, hg⟩
    · refine ⟨by have := (gz x hx).1; omega, fun hm => ?_, (gz x hx).2⟩
      obtain ⟨y, hy, e⟩ := List.mem_map.1 hm
      have h3 := (gz x hx).1
      rcases List.mem_append.1 hy with h | h
      · simp only [memP, List.mem_cons, List.not_mem_nil, or_false] at h
        rcases h with rfl | rfl
        · have e : 7 = x.1 := e
          omega
        · have e : 8 = x.1 := e
          omega
      · have := b1 y h
        omega
    · have := List.all_eq_true.1 h4 b hb
      simp only [newB2, Bool.and_eq_true] at this
      exact ⟨b4 b hb, this.1, this.2⟩
    · rcases List.mem_append.1 hx with h | h
      · simp only [memP, List.mem_cons, List.not_mem_nil, or_false] at h
        rcases h with rfl | rfl
        · rw [lows 7 (by decide)]
          exact ⟨.inl (by simp [memP]), by rw [h7]; show _ = some (AObj.cells false (M2.C (.map (kl g.kl 8)))); rw [lows 8 (by decide)]⟩
        · rw [lows 8 (by decide), mapO_ren]
          exact ⟨.inl (by simp [memP]), h8⟩
      · refine ⟨(b5 x h).2.imp (fun h => ?_) id, ?_⟩
        · rw [List.map_append]
          exact List.mem_append.2 (.inr h)
        · exact List.map_inj_left.1 h2 x h
    · have k9 : ∀ y ∈ g.C', 9 ≤ kl g.kl y.1 := fun y hy => by
        rcases (b5 y hy).2 with h | h
        · obtain ⟨z, hz, e⟩ := List.mem_map.1 h
          have := (b1 z hz).1
          omega
        · have := b4 _ h
          omega
      obtain ⟨y, hy, rfl⟩ := List.mem_map.1 hb
      obtain ⟨z, hz, rfl⟩ := List.mem_map.1 hc
      have lo : ∀ y ∈ memP M2, y.1 < 9 := fun y hy => by
        simp only [memP, List.mem_cons, List.not_mem_nil, or_false] at hy
        rcases hy with rfl | rfl
        · show 7 < 9; decide
        · show 8 < 9; decide
      rcases List.mem_append.1 hy with hy | hy <;> rcases List.mem_append.1 hz with hz | hz
      · rw [lows _ (lo y hy), lows _ (lo z hz)] at e
        exact e
      · rw [lows _ (lo y hy)] at e
        have := lo y hy
        have := k9 z hz
        omega
      · rw [lows _ (lo z hz)] at e
        have := lo z hz
        have := k9 y hy
        omega
      · have := List.all_eq_true.1 (List.all_eq_true.1 a6 y.1 (List.mem_map.2 ⟨y, hy, rfl⟩)) z.1 (List.mem_map.2 ⟨z, hz, rfl⟩)
        simp only [Bool.or_eq_true, Bool.not_eq_true'] at this
        rcases this with h | h
        · rw [e, Nat.beq_refl] at h
          cases h
        · exact Nat.eq_of_beq_eq_true h
    · rcases List.mem_append.1 hx with h | h
      · simp only [memP, List.mem_cons, List.not_mem_nil, or_false] at h
        rcases h with rfl | rfl
        · show ((objAt s1 7).rw = true ∨ _) ∧ _
          rw [o7]
          exact ⟨.inl rfl, rfl⟩
        · show ((objAt s1 8).rw = true ∨ _) ∧ _
          rw [o8]
          exact ⟨.inl rfl, mapO_names _ _⟩
      · have := List.all_eq_true.1 h3 x h
        simp only [oldB, Bool.and_eq_true, Bool.or_eq_true] at this
        refine ⟨this.1.imp id fun h => ?_, this.2⟩
        split at h
        · assumption
        · cases h
theorem stj {g : GD} {M M2 : PM} {v : AV} (hk : GdOkJ g M M2 (mapO M.ms) (mapO M2.ms)) (hq : QOk g.qs) (hw : g.w = v.ren (kl g.kl)) : SF g.f g.args v M M2 g.C g.C' (kl g.kl) := gj_step hk.1 hq hk.2 hw
section
variable {M : PM} {e y th most n m : Nat} {d : Bool}
theorem s_l3 : SF 181 aA (.bool true) M (M.load aPh) [(15, ldO 3 0)] [(15, ldO 3 (getW M.ms aPh))] (kl []) := stp (k_l3 M (M.load aPh) (mapO M.ms) (getW M.ms aPh)) (mld_ok trivial) rfl
theorem s_v1 : SF 184 aA (.bool false) M (M.load aEp) [(15, advO 1 0 0 0 false)] [(15, advO 2 (getW M.ms aEp) 0 0 false)] (kl []) := stj (k_v1 M (M.load aEp) (mapO M.ms) (getW M.ms aEp)) (mld_ok trivial) rfl
theorem s_v2 (h : getW M.ms aBl = 1) : SF 184 aA (.bool false) M (M.load aBl) [(15, advO 2 e 0 0 false)] [(15, advO 3 e 0 4 false)] (kl []) := stj (k_v2 M (M.load aBl) (mapO M.ms) e) (mld_ok' h trivial) rfl
theorem s_v3 {i : Nat} (hi : i ≤ 3) (h : getW M.ms (aTh i 3) = 0) : SF 184 aA (.bool false) M (M.load (aTh i 3)) [(15, advO 3 e i 4 false)] [(15, advO (if i = 3 then 4 else 3) e (i + 1) 4 false)] (kl []) := by
  have hc : i = 0 ∨ i = 1 ∨ i = 2 ∨ i = 3 := by omega
  rcases hc with rfl | rfl | rfl | rfl
  · exact stj (k_v30 M (M.load (aTh 0 3)) (mapO M.ms) e) (mld_ok' (a := aTh 0 3) h trivial) rfl
  · exact stj (k_v31 M (M.load (aTh 1 3)) (mapO M.ms) e) (mld_ok' (a := aTh 1 3) h trivial) rfl
  · exact stj (k_v32 M (M.load (aTh 2 3)) (mapO M.ms) e) (mld_ok' (a := aTh 2 3) h trivial) rfl
  · exact stj (k_v33 M (M.load (aTh 3 3)) (mapO M.ms) e) (mld_ok' (a := aTh 3 3) h trivial) rfl
theorem s_v4 : SF 184 aA (.bool true) M (M.cas aEp e ((e + 1) % 18446744073709551616)) [(15, advO 4 e 4 4 false)] [(15, advO 0 e 4 4 (M.casd aEp e))] (kl []) := stj (k_v4 M (M.cas aEp e ((e + 1) % 18446744073709551616)) (mapO M.ms) (mapO (M.cas aEp e ((e + 1) % 18446744073709551616)).ms) e ((e + 1) % 18446744073709551616) (M.casd aEp e)) (v_ok inc_ok (mcs_ok (by decide) rfl trivial)) rfl
theorem s_w1 : SF 191 aA (.bool false) M (M.load aEra) [(15, bmpO 2 0 false)] [(15, bmpO 1 (getW M.ms aEra) false)] (kl []) := stp (k_w1 M (M.load aEra) (mapO M.ms) (getW M.ms aEra)) (mld_ok trivial) rfl
theorem s_w2 : SF 191 aA (.bool true) M (M.cas aEra e ((e + 1) % 18446744073709551616)) [(15, bmpO 1 e false)] [(15, bmpO 0 e (M.casd aEra e))] (kl []) := stp (k_w2 M (M.cas aEra e ((e + 1) % 18446744073709551616)) (mapO M.ms) (mapO (M.cas aEra e ((e + 1) % 18446744073709551616)).ms) e ((e + 1) % 18446744073709551616) (M.casd aEra e)) (v_ok inc_ok (mcs_ok (by decide) rfl trivial)) rfl
theorem s_t1 (h : getW M.ms aBl = 1) : SF 195 aA (.bool false) M (M.load aBl) [(15, tkO tkB .nilSlice 0 0)] [(15, tkO tkW (.slice 14 0 4 4) 0 4), (14, .cells false Z40)] (kl [(14, 24)]) := stp (k_t1 M (M.load aBl) (mapO M.ms)) (mld_ok' h trivial) rfl
theorem s_t2 {i : Nat} (hi : i ≤ 3) (h : getW M.ms (aTh i 0) = 0) : SF 195 aA (.bool (decide (i = 3))) M (M.load (aTh i 0)) [(15, tkO tkW (.slice 14 0 4 4) i 4), (14, .cells false Z40)] [(15, tkO (if i = 3 then .nilFunc else tkW) (.slice 14 0 4 4) (i + 1) 4), (14, .cells false Z40)] (kl []) := by
  have hc : i = 0 ∨ i = 1 ∨ i = 2 ∨ i = 3 := by omega
  rcases hc with rfl | rfl | rfl | rfl
  · exact stp (k_t20 M (M.load (aTh 0 0)) (mapO M.ms)) (mld_ok' (a := aTh 0 0) h trivial) rfl
  · exact stp (k_t21 M (M.load (aTh 1 0)) (mapO M.ms)) (mld_ok' (a := aTh 1 0) h trivial) rfl
  · exact stp (k_t22 M (M.load (aTh 2 0)) (mapO M.ms)) (mld_ok' (a := aTh 2 0) h trivial) rfl
  · exact stp (k_t23 M (M.load (aTh 3 0)) (mapO M.ms)) (mld_ok' (a := aTh 3 0) h trivial) rfl
end
end Go.Proofs.YtofbdgmknfbkfaaGreatDoor.nodesLife
namespace Go.Proofs.YtofbdgmknfbkfaaGreatDoor.nodesLife
open Go Go.Mini
/-! ### what comes next in a scan, wherever it lies -/
section
variable {M : PM} {h e y th most n m : Nat} {d : Bool}
theorem s_n1 (hh : h < 18446744073709551616) : SF 102 aN (.tuple []) M M [(9, scO most nLd 0 0 .nilSlice .nilSlice .nilSlice), (10, gdO th), (11, liO n), (15, ldO 3 h)] [(9, scO most nAd (byW h) n .nilSlice .nilSlice .nilSlice), (10, gdO th), (11, liO n), (15, advO 1 0 0 0 false)] (kl [(15, 24)]) :=
  stp (k_n1 M (mapO M.ms) h (byW h) th most n (asp h)) ⟨fun s hs => asp_call h hh s hs, by_q h, trivial⟩ rfl
theorem s_n2 : SF 102 aN (.tuple []) M M [(9, scO most nAd y m .nilSlice .nilSlice .nilSlice), (15, advO 0 e 4 4 d)] [(9, scO most nBu y m .nilSlice .nilSlice .nilSlice), (15, bmpO 2 0 false)] (kl [(15, 24)]) := stp (k_n2 M (mapO M.ms) e m y most d) trivial rfl
theorem s_n3 : SF 102 aN (.tuple []) M M [(9, scO most nBu y m .nilSlice .nilSlice .nilSlice), (15, bmpO 0 e d)] [(9, scO most nTk y m .nilSlice .nilSlice .nilSlice), (15, tkO tkB .nilSlice 0 0)] (kl [(15, 24)]) := stp (k_n3 M (mapO M.ms) e m y most d) trivial rfl
theorem s_n4 : SF 102 aN (.tuple []) M M [(9, scO most nTk y m .nilSlice .nilSlice .nilSlice), (15, tkO .nilFunc (.slice 14 0 4 4) 4 4), (14, .cells false Z40)] [(9, scO most nLd y m (.slice 14 0 4 4) .nilSlice .nilSlice), (15, ldO 1 0), (14, .cells false Z40)] (kl [(15, 28), (14, 27)]) := stp (k_n4 M (mapO M.ms) m y most) trivial rfl
end
end Go.Proofs.YtofbdgmknfbkfaaGreatDoor.nodesLife
