/- Begin. Conditions: those that each theorem names, and no others. -/
import Derived.Test.YtchekpapgfojhaaGreatDoorBack16
import Derived.Test.YtchekpapgfojhaaGreatDoorMini3
namespace Go.Proofs.YtchekpapgfojhaaGreatDoor.ctlsFallback
open Go Go.Mini
/-! ### Begin's pieces, run -/
def TB (l0 : AV) (i : Nat) (x6 x8 x19 x23 x25 : AV) : List AV := [l0, undefA, .ptr 5 0, .ptr 6 0, .int .i64 (Int.ofNat i), junkA, x6, junkA, x8, junkA, junkA, junkA, junkA, junkA, junkA, junkA, junkA, junkA, junkA, x19, junkA, junkA, junkA, x23, junkA, x25]
def HB (o5 oM om oR oL : AObj) : List (Nat × AObj) := [(5, o5), (6, .cells false [.ptr 7 0, .ptr 9 0]), (7, oM), (8, om), (9, oR), (10, oL)]
theorem bg_go (l0 : AV) (i nb _ : Nat) (_ _ _ : Int) (x6 x8 x19 x23 x25 c1 c2 : AV) (oM _ om _ oR _ oL _ _ : AObj) (F3 F4 : List AV) : runX Tryz.prog none_ 60 5 (.code (sL (loopAt Tryz.prog 5 0)) (TB l0 i x6 x8 x19 x23 x25) (canF (HB (.cells false [c1, c2]) oM om oR oL) (FC F3 F4) 17 17)) [.val 5 3 2 (ii nb), .val 5 3 3 (.bool true), .val 5 3 6 (.bool true)] = some ({ e := .normal, ts := [l0, ud, .ptr 5 0, .ptr 6 0, ii i, jk, x6, jk, x8, ii i, l0, ii nb, .bool true, .bool true, ii i, .bool true, .bool true, jk, jk, x19, jk, jk, jk, x23, jk, x25], s := ⟨⟨[(5, .cells false [c1, c2]), (6, .cells false [.ptr 7 0, .ptr 9 0]), (7, oM), (8, om), (9, oR), (10, oL), (0, .cells true wfW), (1, .cells true wfB), (2, .cells true wfP), (3, .cells true F3), (4, .cells true F4)], 17, none, []⟩, 17⟩ }, [], [Qst.ln 22 ⟨⟨[(5, .cells false [c1, c2]), (6, .cells false [.ptr 7 0, .ptr 9 0]), (7, oM), (8, om), (9, oR), (10, oL), (0, .cells true wfW), (1, .cells true wfB), (2, .cells true wfP), (3, .cells true F3), (4, .cells true F4)], 17, none, []⟩, 17⟩ l0 (ii nb), Qst.val (some (.bool (decide (Int.ofNat i < Int.ofNat nb)))) (.bool true), Qst.val (some (.bool (decide (Int.ofNat i < 300)))) (.bool true)]) := by kernel_rfl
theorem bg_end (l0 : AV) (i nb _ : Nat) (_ _ _ : Int) (x6 x8 x19 x23 x25 c1 c2 : AV) (oM _ om _ oR _ oL _ _ : AObj) (F3 F4 : List AV) : runX Tryz.prog none_ 60 5 (.code (sL (loopAt Tryz.prog 5 0)) (TB l0 i x6 x8 x19 x23 x25) (canF (HB (.cells false [c1, c2]) oM om oR oL) (FC F3 F4) 17 17)) [.val 5 3 2 (ii nb), .val 5 3 3 (.bool false)] = some ({ e := .exit 0, ts := [l0, ud, .ptr 5 0, .ptr 6 0, ii i, jk, x6, jk, x8, ii i, l0, ii nb, .bool false, .bool false, ud, ud, .bool false, jk, jk, x19, jk, jk, jk, x23, jk, x25], s := ⟨⟨[(5, .cells false [c1, c2]), (6, .cells false [.ptr 7 0, .ptr 9 0]), (7, oM), (8, om), (9, oR), (10, oL), (0, .cells true wfW), (1, .cells true wfB), (2, .cells true wfP), (3, .cells true F3), (4, .cells true F4)], 17, none, []⟩, 17⟩ }, [], [Qst.ln 22 ⟨⟨[(5, .cells false [c1, c2]), (6, .cells false [.ptr 7 0, .ptr 9 0]), (7, oM), (8, om), (9, oR), (10, oL), (0, .cells true wfW), (1, .cells true wfB), (2, .cells true wfP), (3, .cells true F3), (4, .cells true F4)], 17, none, []⟩, 17⟩ l0 (ii nb), Qst.val (some (.bool (decide (Int.ofNat i < Int.ofNat nb)))) (.bool false)]) := by kernel_rfl
theorem bg_st (l0 : AV) (i _ v : Nat) (k x y : Int) (x6 x8 x19 x23 x25 c1 c2 : AV) (oM oM2 om om2 oR oR2 oL oL2 pA : AObj) (F3 F4 : List AV) : runX Tryz.prog none_ 60 5 (.code (sL (sR (loopAt Tryz.prog 5 0))) (TB l0 i x6 x8 x19 x23 x25) (canF (HB (.cells false [c1, c2]) oM om oR oL) (FC F3 F4) 17 17)) [.val 5 5 3 (.ptr 3 (i * 4)), .val 5 5 4 (.agg [.int .u8 k, .int .i64 x, .int .i64 y, iw v]), .call 5 5 5 ud (fun s => ((((s.set 7 oM2).set 8 om2).set 9 oR2).set 10 oL2).push pA)] = some ({ e := .normal, ts := [l0, ud, .ptr 5 0, .ptr 6 0, ii i, jk, x6, jk, x8, jk, jk, jk, jk, jk, jk, jk, jk, jk, jk, .agg [.ptr 7 0, .ptr 9 0], l0, ii i, .ptr 3 (i * 4), .agg [.int .u8 k, .int .i64 x, .int .i64 y, iw v], ud, x25], s := ⟨⟨[(17, pA), (5, .cells false [c1, c2]), (6, .cells false [.ptr 7 0, .ptr 9 0]), (7, oM2), (8, om2), (9, oR2), (10, oL2), (0, .cells true wfW), (1, .cells true wfB), (2, .cells true wfP), (3, .cells true F3), (4, .cells true F4)], 18, none, [10, 9, 8, 7]⟩, 18⟩ }, [], [Qst.idx 22 l0 (ii i) (.ptr 3 (i * 4)), Qst.ld 47 ⟨⟨[(5, .cells false [c1, c2]), (6, .cells false [.ptr 7 0, .ptr 9 0]), (7, oM), (8, om), (9, oR), (10, oL), (0, .cells true wfW), (1, .cells true wfB), (2, .cells true wfP), (3, .cells true F3), (4, .cells true F4)], 17, none, []⟩, 17⟩ (.ptr 3 (i * 4)) (.agg [.int .u8 k, .int .i64 x, .int .i64 y, iw v]), Qst.snd (Task.call 8 [.agg [.ptr 7 0, .ptr 9 0], .agg [.int .u8 k, .int .i64 x, .int .i64 y, iw v]] ⟨⟨[(5, .cells false [c1, c2]), (6, .cells false [.ptr 7 0, .ptr 9 0]), (7, oM), (8, om), (9, oR), (10, oL), (0, .cells true wfW), (1, .cells true wfB), (2, .cells true wfP), (3, .cells true F3), (4, .cells true F4)], 17, none, []⟩, 17⟩) { e := .ret, ts := [ud], s := ⟨⟨[(17, pA), (5, .cells false [c1, c2]), (6, .cells false [.ptr 7 0, .ptr 9 0]), (7, oM2), (8, om2), (9, oR2), (10, oL2), (0, .cells true wfW), (1, .cells true wfB), (2, .cells true wfP), (3, .cells true F3), (4, .cells true F4)], 18, none, [10, 9, 8, 7]⟩, 18⟩ }]) := by kernel_rfl
theorem bg_i (l0 : AV) (i _ _ : Nat) (_ _ _ : Int) (x6 x8 x19 x23 x25 c1 c2 : AV) (oM _ om _ oR _ oL _ _ : AObj) (F3 F4 : List AV) : runX Tryz.prog none_ 60 5 (.code (sR (sR (loopAt Tryz.prog 5 0))) (TB l0 i x6 x8 x19 x23 x25) (canF (HB (.cells false [c1, c2]) oM om oR oL) (FC F3 F4) 17 17)) [.val 5 4 1 (ii (i + 1))] = some ({ e := .normal, ts := [l0, ud, .ptr 5 0, .ptr 6 0, ii (i + 1), jk, x6, jk, x8, jk, jk, jk, jk, jk, jk, jk, jk, ii i, ii (i + 1), x19, jk, jk, jk, x23, jk, x25], s := ⟨⟨[(5, .cells false [c1, c2]), (6, .cells false [.ptr 7 0, .ptr 9 0]), (7, oM), (8, om), (9, oR), (10, oL), (0, .cells true wfW), (1, .cells true wfB), (2, .cells true wfP), (3, .cells true F3), (4, .cells true F4)], 17, none, []⟩, 17⟩ }, [], [Qst.val (some (.int .i64 (IntKind.i64.wrap (Int.ofNat (i + 1))))) (ii (i + 1))]) := by kernel_rfl
theorem bg_out (l0 : AV) (i _ _ : Nat) (_ _ _ : Int) (x6 x8 x19 x23 x25 c1 c2 : AV) (oM _ om _ oR _ oL _ _ : AObj) (F3 F4 : List AV) : runX Tryz.prog none_ 60 5 (.code (sR (sR (sR (bodyOf Tryz.prog 5)))) (TB l0 i x6 x8 x19 x23 x25) (canF (HB (.cells false [c1, c2]) oM om oR oL) (FC F3 F4) 17 17)) [] = some ({ e := .ret, ts := [l0, ud, .ptr 5 0, .ptr 6 0, ii i, jk, x6, jk, x8, jk, jk, jk, jk, jk, jk, jk, jk, jk, jk, x19, jk, jk, jk, x23, jk, .agg [.ptr 7 0, .ptr 9 0]], s := ⟨⟨[(5, .cells false [.ptr 7 0, .ptr 9 0]), (6, .cells false [.ptr 7 0, .ptr 9 0]), (7, oM), (8, om), (9, oR), (10, oL), (0, .cells true wfW), (1, .cells true wfB), (2, .cells true wfP), (3, .cells true F3), (4, .cells true F4)], 17, some 5, [5]⟩, 17⟩ }, [], []) := by kernel_rfl
/-! ### Begin's loop, wherever its heap lies -/
abbrev Q5 := AV × AV × AV × AV × AV
def TQ (l0 : AV) (i : Nat) (q : Q5) : List AV := TB l0 i q.1 q.2.1 q.2.2.1 q.2.2.2.1 q.2.2.2.2
structure Cq (q : Q5) : Prop where
  a : q.1.names (fun _ => false) = true
  b : q.2.1.names (fun _ => false) = true
  c : q.2.2.1.names (fun _ => false) = true
  d : q.2.2.2.1.names (fun _ => false) = true
  e : q.2.2.2.2.names (fun _ => false) = true
theorem TQ_names {l0 : AV} (h0 : L34 l0) (i : Nat) {q : Q5} (hq : Cq q) : namess (fun b => Nat.blt b 17) (TQ l0 i q) = true := by
  have e0 : l0.names (fun b => Nat.blt b 17) = true := h0.nm rfl rfl
  unfold TQ TB
  simp only [namess, e0, cl_nm hq.a, cl_nm hq.b, cl_nm hq.c, cl_nm hq.d, cl_nm hq.e, Bool.true_and, Bool.and_true]
  rfl
theorem TQ_kap {l0 : AV} (h0 : L34 l0) (i k10 : Nat) {q : Q5} (hq : Cq q) : rens (kap k10 13 14 15 16) (TQ l0 i q) = TQ l0 i q := by
  have e0 : l0.ren (kap k10 13 14 15 16) = l0 := h0.ren rfl rfl
  unfold TQ TB
  simp only [rens, e0, cl_ren hq.a, cl_ren hq.b, cl_ren hq.c, cl_ren hq.d, cl_ren hq.e]
  rfl
def N6 : List Nat := [5, 6, 7, 8, 9, 10]
theorem N6_lt {b : Nat} (h : b ∈ N6) : b < 17 := by
  simp only [N6, List.mem_cons, List.not_mem_nil, or_false] at h
  omega
def HBm (m : PM) (oL : AObj) : List (Nat × AObj) := HB (.cells false [.nilPtr, .nilPtr]) (.cells false (m.C (.map 8))) (mapO m.ms) (.cells false (m.C (LV m.ms 10))) oL
def InvB (m : PM) (F3 F4 : List AV) (s : AS) (π : Nat → Nat) : Prop := ∃ oL, RO m.ms oL ∧ At Tryz.prog (HBm m oL) (FC F3 F4) s π ∧ (∀ x ∈ FC F3 F4, π x.1 = x.1) ∧ ∀ b ∈ N6, 17 ≤ π b
theorem kanB {m : PM} {oL : AObj} (hr : RO m.ms oL) {F3 F4 : List AV} (h3 : namess (fun _ => false) F3 = true) (h4 : namess (fun _ => false) F4 = true) : Kan Tryz.prog (HBm m oL) (FC F3 F4) 17 where
  glob := by rw [gl3]; decide
  ok := ⟨⟨show 5 < 17 by decide, rfl, rfl, rfl⟩, ⟨show 6 < 17 by decide, rfl, rfl, rfl⟩, ⟨show 7 < 17 by decide, rfl, rfl, rfl⟩, ⟨show 8 < 17 by decide, rfl, mapO_names _ _, rfl⟩, ⟨show 9 < 17 by decide, rfl, C_names _ _ _ (LV_names _ _ _ rfl), rfl⟩, ⟨show 10 < 17 by decide, hr.free.1, hr.free.nm _, rfl⟩, trivial⟩
  nodup := show [5, 6, 7, 8, 9, 10].Nodup by decide
  fz := by
    intro x hx
    simp only [FC, List.mem_cons, List.not_mem_nil, or_false] at hx
    rcases hx with rfl | rfl | rfl | rfl | rfl
    · exact ⟨show 0 < 17 by decide, show 0 ∉ [5, 6, 7, 8, 9, 10] by decide, rfl⟩
    · exact ⟨show 1 < 17 by decide, show 1 ∉ [5, 6, 7, 8, 9, 10] by decide, rfl⟩
    · exact ⟨show 2 < 17 by decide, show 2 ∉ [5, 6, 7, 8, 9, 10] by decide, rfl⟩
    · exact ⟨show 3 < 17 by decide, show 3 ∉ [5, 6, 7, 8, 9, 10] by decide, h3⟩
    · exact ⟨show 4 < 17 by decide, show 4 ∉ [5, 6, 7, 8, 9, 10] by decide, h4⟩
section
variable {m m' : PM} {oL oL' : AObj} {F3 F4 : List AV} {Cd : Code} {e : AExit} {ts1 : List AV} {s1 s : AS} {π : Nat → Nat} {i i' : Nat} {l0 : AV} {q q' : Q5}
theorem stepB (hr : RO m.ms oL) (h3 : namess (fun _ => false) F3 = true) (h4 : namess (fun _ => false) F4 = true) (A : At Tryz.prog (HBm m oL) (FC F3 F4) s π) (hz : ∀ x ∈ FC F3 F4, π x.1 = x.1) (h17 : ∀ b ∈ N6, 17 ≤ π b)
    (h : Sound Tryz.prog (.code Cd (TQ l0 i q) (canF (HBm m oL) (FC F3 F4) 17 17)) ⟨e, ts1, s1⟩) (hl0 : L34 l0) (hq : Cq q) (hq' : Cq q') (hts : seesT (fun b => b) (fun _ => true) (TQ l0 i' q') ts1)
    (new : List Nat) (hn : new.Nodup) (k10 : Nat) (q10 : k10 = 10 ∨ k10 ∈ new) (hnew : ∀ b ∈ new, 17 ≤ b ∧ (objAt s1 b).rw = true ∧ (objAt s1 b).names (pN 17 new) = true)
    (hold : ((objAt s1 10).rw = true ∨ objAt s1 10 = .dead) ∧ (objAt s1 10).names (pN 17 new) = true) (hr' : RO m'.ms oL')
    (g5 : s1.get 5 = some (.cells false [.nilPtr, .nilPtr])) (g6 : s1.get 6 = some (.cells false [.ptr 7 0, .ptr 9 0])) (g7 : s1.get 7 = some (.cells false (m'.C (.map 8)))) (g8 : s1.get 8 = some (mapO m'.ms)) (g9 : s1.get 9 = some (.cells false (m'.C (LV m'.ms k10)))) (g10 : s1.get k10 = some oL') :
    ∃ s' π', Sound Tryz.prog (.code Cd (rens π (TQ l0 i q)) s) ⟨e, rens π' (TQ l0 i' q'), s'⟩ ∧ InvB m' F3 F4 s' π' := by
  have K := kanB hr h3 h4
  have big : k10 = 10 ∨ 17 ≤ k10 := q10.imp id fun h => (hnew _ h).1
  have kin := kap_in (k10 := k10) (k13 := 13) (k14 := 14) (k15 := 15) (k16 := 16) (new := new) q10 (.inl rfl) (.inl rfl) (.inl rfl) (.inl rfl)
  have kN : ∀ b, Nat.blt b 17 = true → pN 17 new (kap k10 13 14 15 16 b) = true := fun b hb => by
    unfold pN
    rcases kin b with h | h
    · rw [h, hb]; rfl
    · simp [h]
  have ob : ∀ {b : Nat} {o : AObj}, s1.get b = some o → objAt s1 b = o := fun h => by simp [objAt, h]
  have old : ∀ {b : Nat} {cs : List AV}, s1.get b = some (.cells false cs) → namess (pN 17 new) cs = true → ((objAt s1 b).rw = true ∨ objAt s1 b = .dead) ∧ (objAt s1 b).names (pN 17 new) = true := fun h hh => by rw [ob h]; exact ⟨.inl rfl, hh⟩
  have hold' : ∀ b ∈ N6, ((objAt s1 b).rw = true ∨ objAt s1 b = .dead) ∧ (objAt s1 b).names (pN 17 new) = true := by
    intro b hb
    simp only [N6, List.mem_cons, List.not_mem_nil, or_false] at hb
    rcases hb with rfl | rfl | rfl | rfl | rfl | rfl
    · exact old g5 rfl
    · exact old g6 rfl
    · exact old g7 rfl
    · rw [ob g8]; exact ⟨.inl rfl, mapO_names _ _⟩
    · exact old g9 (C_names _ _ _ (LV_names _ _ _ (kN 10 rfl)))
    · exact hold
  have inN : ∀ b ∈ N6, kap k10 13 14 15 16 b ∈ N6 ∨ kap k10 13 14 15 16 b ∈ new := fun b hb => (kin b).imp (fun h => by rw [h]; exact hb) id
  have e9 : s1.get 9 = some (AObj.ren (kap k10 13 14 15 16) (.cells false (m'.C (LV m'.ms 10)))) := by
    show s1.get 9 = some (.cells false (m'.C ((LV m'.ms 10).ren _)))
    rw [LV_ren]
    exact g9
  have nd : [k10, 13, 14, 15, 16].Nodup := by
    simp only [List.nodup_cons, List.mem_cons, List.not_mem_nil, or_false, not_or, not_false_eq_true, List.nodup_nil, and_true]
    omega
  obtain ⟨s', π', hs, ha, hz', hb'⟩ := At.step2 (n0 := 17) (nx0 := 17) (new := new) (κ := kap k10 13 14 15 16) (T' := TQ l0 i' q') (bs' := HBm m' oL')
    A K hn hnew (fun g hg => kap_lo (by rw [gl3] at hg; simp; omega)) (fun x hx => by
      simp only [FC, List.mem_cons, List.not_mem_nil, or_false] at hx
      rcases hx with rfl | rfl | rfl | rfl | rfl <;> rfl)
    ⟨⟨inN 5 (by simp [N6]), g5⟩, ⟨inN 6 (by simp [N6]), g6⟩, ⟨inN 7 (by simp [N6]), g7⟩, ⟨inN 8 (by simp [N6]), by rw [mapO_ren]; exact g8⟩, ⟨inN 9 (by simp [N6]), e9⟩, ⟨inN 10 (by simp [N6]), by rw [hr'.free.ren]; exact g10⟩, trivial⟩
    (fun b hb c hc hh => kap_inj big (.inl rfl) (.inl rfl) (.inl rfl) (.inl rfl) nd (N6_lt hb) (N6_lt hc) hh)
    h (TQ_names hl0 i hq) hold' (fun b hb => (kin b).imp (fun h => by rw [h]; exact hb) id) (TQ_names hl0 i' hq') (by rw [TQ_kap hl0 i' k10 hq']; exact hts)
  have n17 : 17 ≤ s.nx := by
    have h1 := A.lt (b := 5) (show 5 ∈ N6 by decide)
    have h2 := h17 5 (by decide)
    omega
  refine ⟨s', π', hs, oL', hr', ha, fun x hx => (hz' x hx).trans (hz x hx), fun b hb => ?_⟩
  rcases hb' b hb with ⟨d, hd, e⟩ | h
  · rw [e]; exact h17 d hd
  · omega
end
noncomputable def cLB : Code := loopAt Tryz.prog 5 0
theorem cLB_eq : cLB = .seq (sL cLB) (.seq (sL (sR cLB)) (sR (sR cLB))) := by kernel_rfl
section
variable {m : PM} {F3 F4 : List AV} {s : AS} {π : Nat → Nat} {i : Nat} {l0 : AV} {q : Q5} {fs : MS} (W : RwL 3 l0 F3 fs) (h4 : namess (fun _ => false) F4 = true) (hq : Cq q)
include W h4 hq
theorem b_go (hI : InvB m F3 F4 s π) (hi : i < fs.length) (h3 : i < 300) : ∃ s' π', Sound Tryz.prog (.code (sL cLB) (rens π (TQ l0 i q)) s) ⟨.normal, rens π' (TQ l0 i q), s'⟩ ∧ InvB m F3 F4 s' π' := by
  obtain ⟨oL, hr, A, hz, h17⟩ := hI
  have q1 : decide (Int.ofNat i < Int.ofNat fs.length) = true := decide_eq_true (by simp only [Int.ofNat_eq_natCast]; omega)
  have q2 : decide (Int.ofNat i < 300) = true := decide_eq_true (by simp only [Int.ofNat_eq_natCast]; omega)
  have hx := runX_sound mixed none_sound (bg_go l0 i fs.length 0 0 0 0 q.1 q.2.1 q.2.2.1 q.2.2.2.1 q.2.2.2.2 .nilPtr .nilPtr (.cells false (m.C (.map 8))) .dead (mapO m.ms) .dead (.cells false (m.C (LV m.ms 10))) .dead oL .dead .dead F3 F4) ⟨W.len _, by rw [q1]; rfl, by rw [q2]; rfl, trivial⟩
  exact stepB hr W.fz h4 A hz h17 hx W.nm hq hq (by unfold TQ TB; repeat (first | exact rfl | refine ⟨_, _, rfl, ?_, ?_⟩ | exact see_same _ | exact .inl W.na | exact .inl ⟨rfl, rfl⟩)) [] List.nodup_nil 10 (.inl rfl) (fun b hb => by cases hb) ⟨.inl hr.free.1, hr.free.nm _⟩ hr rfl rfl rfl rfl rfl rfl
theorem b_end (hI : InvB m F3 F4 s π) (hi : ¬ i < fs.length) : ∃ s' π', Sound Tryz.prog (.code (sL cLB) (rens π (TQ l0 i q)) s) ⟨.exit 0, rens π' (TQ l0 i q), s'⟩ ∧ InvB m F3 F4 s' π' := by
  obtain ⟨oL, hr, A, hz, h17⟩ := hI
  have q1 : decide (Int.ofNat i < Int.ofNat fs.length) = false := decide_eq_false (by simp only [Int.ofNat_eq_natCast]; omega)
  have hx := runX_sound mixed none_sound (bg_end l0 i fs.length 0 0 0 0 q.1 q.2.1 q.2.2.1 q.2.2.2.1 q.2.2.2.2 .nilPtr .nilPtr (.cells false (m.C (.map 8))) .dead (mapO m.ms) .dead (.cells false (m.C (LV m.ms 10))) .dead oL .dead .dead F3 F4) ⟨W.len _, by rw [q1]; rfl, trivial⟩
  exact stepB hr W.fz h4 A hz h17 hx W.nm hq hq (by unfold TQ TB; repeat (first | exact rfl | refine ⟨_, _, rfl, ?_, ?_⟩ | exact see_same _ | exact .inl W.na | exact .inl ⟨rfl, rfl⟩)) [] List.nodup_nil 10 (.inl rfl) (fun b hb => by cases hb) ⟨.inl hr.free.1, hr.free.nm _⟩ hr rfl rfl rfl rfl rfl rfl
theorem b_i (hI : InvB m F3 F4 s π) (h3 : i < 300) : ∃ s' π', Sound Tryz.prog (.code (sR (sR cLB)) (rens π (TQ l0 i q)) s) ⟨.normal, rens π' (TQ l0 (i + 1) q), s'⟩ ∧ InvB m F3 F4 s' π' := by
  obtain ⟨oL, hr, A, hz, h17⟩ := hI
  have := 0
  have hx := runX_sound mixed none_sound (bg_i l0 i 0 0 0 0 0 q.1 q.2.1 q.2.2.1 q.2.2.2.1 q.2.2.2.2 .nilPtr .nilPtr (.cells false (m.C (.map 8))) .dead (mapO m.ms) .dead (.cells false (m.C (LV m.ms 10))) .dead oL .dead .dead F3 F4) ⟨by show some (AV.int .i64 (IntKind.i64.wrap (Int.ofNat (i + 1)))) = _; rw [i64_wrap (by simp only [Int.ofNat_eq_natCast]; omega) (by simp only [Int.ofNat_eq_natCast]; omega)], trivial⟩
  exact stepB hr W.fz h4 A hz h17 hx W.nm hq hq (by unfold TQ TB; repeat (first | exact rfl | refine ⟨_, _, rfl, ?_, ?_⟩ | exact see_same _ | exact .inl W.na | exact .inl ⟨rfl, rfl⟩)) [] List.nodup_nil 10 (.inl rfl) (fun b hb => by cases hb) ⟨.inl hr.free.1, hr.free.nm _⟩ hr rfl rfl rfl rfl rfl rfl
theorem b_st (hI : InvB m F3 F4 s π) {z : A3 × Nat} (hz0 : fs[i]? = some z) (hl : m.ms.length < 16776000) : ∃ s' π' q', Cq q' ∧ Sound Tryz.prog (.code (sL (sR cLB)) (rens π (TQ l0 i q)) s) ⟨.normal, rens π' (TQ l0 i q'), s'⟩ ∧ InvB (m.store z.1 z.2) F3 F4 s' π' := by
  obtain ⟨oL, hr0, A, hz, h17⟩ := hI
  have hi : i < fs.length := (List.getElem?_eq_some_iff.1 hz0).1
  have hp := W.pos z (List.mem_of_getElem? hz0)
  obtain ⟨rw_, hrw⟩ := W.row
  have hz' : (fs ++ rw_)[i]? = some z := by rw [List.getElem?_append_left hi]; exact hz0
  obtain ⟨lv, oL', pA, hr, hS⟩ := S_at (h := ⟨(HBm m oL) ++ frz (FC F3 F4), 17, none, []⟩) (m := m) rfl rfl rfl rfl hr0 hl z.1 hp.1 z.2
  have hx := runX_sound mixed none_sound (bg_st l0 i 0 z.2 z.1.1 z.1.2.1 z.1.2.2 q.1 q.2.1 q.2.2.1 q.2.2.2.1 q.2.2.2.2 .nilPtr .nilPtr (.cells false (m.C (.map 8))) (.cells false ((m.store z.1 z.2).C (.map 8))) (mapO m.ms) (mapO (m.store z.1 z.2).ms) (.cells false (m.C (LV m.ms 10))) (.cells false ((m.store z.1 z.2).C lv)) oL oL' pA F3 F4) ⟨W.idx i hi, ld_row (f := wc) (n := 4) (fun _ => rfl) aSt sSt (by rw [hrw]; rfl) hz', hS, trivial⟩
  have hpA := hr.o2
  have hnew : ∀ (h1 : AS), h1.get 17 = some pA → ∀ b ∈ [17], 17 ≤ b ∧ (objAt h1 b).rw = true ∧ (objAt h1 b).names (pN 17 [17]) = true := fun h1 e b hb => by
    rcases List.mem_singleton.1 hb with rfl
    rw [show objAt h1 17 = pA by simp [objAt, e]]
    exact ⟨Nat.le_refl _, hpA.1, hpA.nm _⟩
  have hq' : Cq (q.1, q.2.1, .agg [junkA, junkA], .agg [junkA, junkA, junkA, junkA], q.2.2.2.2) := ⟨hq.a, hq.b, rfl, rfl, hq.e⟩
  have ho := hr.o1
  rcases hr with ⟨rfl, hro, hf⟩ | ⟨hne, rfl, hd, hro⟩
  · obtain ⟨s', π', h1, h2⟩ := stepB (i' := i) (m' := m.store z.1 z.2) (q' := (q.1, q.2.1, .agg [junkA, junkA], .agg [junkA, junkA, junkA, junkA], q.2.2.2.2)) hr0 W.fz h4 A hz h17 hx W.nm hq hq' (by unfold TQ TB; repeat (first | exact rfl | refine ⟨_, _, rfl, ?_, ?_⟩ | exact see_same _ | exact .inl W.na | exact .inl ⟨rfl, rfl⟩)) [17] (by decide) 10 (.inl rfl) (hnew _ rfl) ⟨ho.1, ho.2 _⟩ hro rfl rfl rfl rfl rfl rfl
    exact ⟨s', π', _, hq', h1, h2⟩
  · obtain ⟨s', π', h1, h2⟩ := stepB (i' := i) (m' := m.store z.1 z.2) (q' := (q.1, q.2.1, .agg [junkA, junkA], .agg [junkA, junkA, junkA, junkA], q.2.2.2.2)) hr0 W.fz h4 A hz h17 hx W.nm hq hq' (by unfold TQ TB; repeat (first | exact rfl | refine ⟨_, _, rfl, ?_, ?_⟩ | exact see_same _ | exact .inl W.na | exact .inl ⟨rfl, rfl⟩)) [17] (by decide) 17 (.inr (by simp)) (hnew _ rfl) ⟨ho.1, ho.2 _⟩ hro rfl rfl rfl rfl rfl rfl
    exact ⟨s', π', _, hq', h1, h2⟩
end
/-- What the stores make of a memory. -/
def stAll (fs : MS) (m : PM) : PM := fs.foldl (fun m z => m.store z.1 z.2) m
theorem b_loop {F3 F4 : List AV} {l0 : AV} {fs : MS} (W : RwL 3 l0 F3 fs) (h4 : namess (fun _ => false) F4 = true) (h300 : fs.length ≤ 300) : ∀ (d i k : Nat) (m : PM) (s : AS) (π : Nat → Nat) (q : Q5), fs.length - i = d → Cq q → i ≤ fs.length → m.Ok k → k + d ≤ 1000 → InvB m F3 F4 s π →
    ∃ s' π' q', Cq q' ∧ Sound Tryz.prog (.code (.loop cLB) (rens π (TQ l0 i q)) s) ⟨.exit 0, rens π' (TQ l0 fs.length q'), s'⟩ ∧ InvB (stAll (fs.drop i) m) F3 F4 s' π' ∧ (stAll (fs.drop i) m).Ok (k + d) := by
  intro d
  induction d with
  | zero =>
    intro i k m s π q hd hq hi hm hk hI
    have : i = fs.length := by omega
    subst this
    obtain ⟨s', π', h1, h2⟩ := b_end (i := fs.length) W h4 hq hI (by omega)
    refine ⟨s', π', q, hq, loop_stop ?_ (by simp), ?_, ?_⟩
    · rw [cLB_eq]
      exact seq_stop h1 (by simp)
    · rw [List.drop_length]; exact h2
    · rw [List.drop_length]; exact hm
  | succ d ih =>
    intro i k m s π q hd hq hi hm hk hI
    have hlt : i < fs.length := by omega
    have hz : fs[i]? = some fs[i] := List.getElem?_eq_getElem hlt
    have hv := W.pos fs[i] (List.getElem_mem hlt)
    have := hm.len
    obtain ⟨s1, π1, h1, hI1⟩ := b_go (i := i) W h4 hq hI hlt (by omega)
    obtain ⟨s2, π2, q2, hq2, h2, hI2⟩ := b_st (i := i) W h4 hq hI1 hz (by omega)
    obtain ⟨s3, π3, h3, hI3⟩ := b_i (i := i) W h4 hq2 hI2 (by omega)
    obtain ⟨s', π', q', hq', h5, h6, h7⟩ := ih (i + 1) (k + 1) _ s3 π3 q2 (by omega) hq2 (by omega) (hm.store fs[i].1 hv.2) (by omega) hI3
    have e : stAll (fs.drop i) m = stAll (fs.drop (i + 1)) (m.store fs[i].1 fs[i].2) := by
      rw [List.drop_eq_getElem_cons hlt]
      rfl
    refine ⟨s', π', q', hq', loop_next ?_ h5, by rw [e]; exact h6, by rw [e, show k + (d + 1) = k + 1 + d by omega]; exact h7⟩
    rw [cLB_eq]
    exact seq_next h1 (seq_next h2 h3)
/-! ### Begin's first regions: 17 a phantom (the row to come) -/
theorem bh_0 (l0 _ : AV) (F3 F4 : List AV) : runX Tryz.prog none_ 60 5 (.code (sL (bodyOf Tryz.prog 5)) (l0 :: List.replicate 25 ud) ⟨⟨[(17, .cells false []), (0, .cells true wfW), (1, .cells true wfB), (2, .cells true wfP), (3, .cells true F3), (4, .cells true F4)], 18, none, []⟩, 18⟩) [] = some ({ e := .normal, ts := [l0, ud, .ptr 18 0, ud, ud, ud, ud, ud, ud, ud, ud, ud, ud, ud, ud, ud, ud, ud, ud, ud, ud, ud, ud, ud, ud, ud], s := ⟨⟨[(18, .cells false [.nilPtr, .nilPtr]), (17, .cells false []), (0, .cells true wfW), (1, .cells true wfB), (2, .cells true wfP), (3, .cells true F3), (4, .cells true F4)], 19, none, []⟩, 19⟩ }, [], []) := by kernel_rfl
theorem bh_1 (l0 _ : AV) (F3 F4 : List AV) : runX Tryz.prog none_ 60 5 (.code (sL (sR (bodyOf Tryz.prog 5))) (l0 :: ud :: .ptr 18 0 :: List.replicate 23 ud) ⟨⟨[(18, .cells false [.nilPtr, .nilPtr]), (17, .cells false []), (0, .cells true wfW), (1, .cells true wfB), (2, .cells true wfP), (3, .cells true F3), (4, .cells true F4)], 19, none, []⟩, 19⟩) [] = some ({ e := .normal, ts := [l0, ud, .ptr 18 0, .ptr 22 0, ud, .ptr 20 0, .agg [.nilSlice, ii 0, i8 0, i8 0, ii 0, ii 0, iw 0, iw 0, .bool false], .ptr 21 0, .agg [.ptr 20 0, .ptr 21 0], ud, ud, ud, ud, ud, ud, ud, ud, ud, ud, ud, ud, ud, ud, ud, ud, ud], s := ⟨⟨[(22, .cells false [.ptr 20 0, .ptr 21 0]), (21, .cells false [.nilSlice, ii 0, i8 0, i8 0, ii 0, ii 0, iw 0, iw 0, .bool false]), (20, .cells false [.map 19, ii 0, i8 0, i8 0, ii 0, ii 0, iw 0, iw 0, .bool false]), (19, .map [] [] 0), (18, .cells false [.nilPtr, .nilPtr]), (17, .cells false []), (0, .cells true wfW), (1, .cells true wfB), (2, .cells true wfP), (3, .cells true F3), (4, .cells true F4)], 23, none, [22]⟩, 23⟩ }, [], []) := by kernel_rfl
theorem bh_2 (l0 x6 : AV) (F3 F4 : List AV) : runX Tryz.prog none_ 60 5 (.code (sL (sL (sR (sR (bodyOf Tryz.prog 5))))) ([l0, ud, .ptr 18 0, .ptr 22 0, ud, .ptr 20 0, x6, .ptr 21 0, .agg [.ptr 20 0, .ptr 21 0]] ++ List.replicate 17 ud) ⟨⟨[(22, .cells false [.ptr 20 0, .ptr 21 0]), (21, .cells false [.nilSlice, ii 0, i8 0, i8 0, ii 0, ii 0, iw 0, iw 0, .bool false]), (20, .cells false [.map 19, ii 0, i8 0, i8 0, ii 0, ii 0, iw 0, iw 0, .bool false]), (19, .map [] [] 0), (18, .cells false [.nilPtr, .nilPtr]), (17, .cells false []), (0, .cells true wfW), (1, .cells true wfB), (2, .cells true wfP), (3, .cells true F3), (4, .cells true F4)], 23, none, [22]⟩, 23⟩) [] = some ({ e := .normal, ts := [l0, ud, .ptr 18 0, .ptr 22 0, ii 0, .ptr 20 0, x6, .ptr 21 0, .agg [.ptr 20 0, .ptr 21 0], ud, ud, ud, ud, ud, ud, ud, ud, ud, ud, ud, ud, ud, ud, ud, ud, ud], s := ⟨⟨[(22, .cells false [.ptr 20 0, .ptr 21 0]), (21, .cells false [.nilSlice, ii 0, i8 0, i8 0, ii 0, ii 0, iw 0, iw 0, .bool false]), (20, .cells false [.map 19, ii 0, i8 0, i8 0, ii 0, ii 0, iw 0, iw 0, .bool false]), (19, .map [] [] 0), (18, .cells false [.nilPtr, .nilPtr]), (17, .cells false []), (0, .cells true wfW), (1, .cells true wfB), (2, .cells true wfP), (3, .cells true F3), (4, .cells true F4)], 23, none, [22]⟩, 23⟩ }, [], []) := by kernel_rfl
def PM0 : PM := ⟨[], 0, 0, (0, 0, 0), 0, 0, false⟩
theorem PM0_ok : PM0.Ok 0 := ⟨fun _ => by show (0 : Nat) < _; omega, Nat.le_refl 0⟩
def sB (F3 F4 : List AV) : AS := ⟨⟨[(22, .cells false [.ptr 20 0, .ptr 21 0]), (21, .cells false [.nilSlice, .int .i64 (Int.ofNat 0), .int .u8 (Int.ofNat 0), .int .u8 (Int.ofNat 0), .int .i64 (Int.ofNat 0), .int .i64 (Int.ofNat 0), .int .u64 (Int.ofNat 0), .int .u64 (Int.ofNat 0), .bool false]), (20, .cells false [.map 19, .int .i64 (Int.ofNat 0), .int .u8 (Int.ofNat 0), .int .u8 (Int.ofNat 0), .int .i64 (Int.ofNat 0), .int .i64 (Int.ofNat 0), .int .u64 (Int.ofNat 0), .int .u64 (Int.ofNat 0), .bool false]), (19, .map [] [] 0), (18, .cells false [.nilPtr, .nilPtr]), (17, .cells false []), (0, .cells true wfW), (1, .cells true wfB), (2, .cells true wfP), (3, .cells true F3), (4, .cells true F4)], 23, none, [22]⟩, 23⟩
def piB (b : Nat) : Nat := if b = 5 then 18 else if b = 6 then 22 else if b = 7 then 20 else if b = 8 then 19 else if b = 9 then 21 else if b = 10 then 17 else b
theorem b_start (F3 F4 : List AV) : InvB PM0 F3 F4 (sB F3 F4) piB := by
  have fzi : ∀ x ∈ FC F3 F4, piB x.1 = x.1 := fun x hx => by
    simp only [FC, List.mem_cons, List.not_mem_nil, or_false] at hx
    rcases hx with rfl | rfl | rfl | rfl | rfl <;> rfl
  have fz5 : ∀ x ∈ FC F3 F4, x.1 < 5 := fun x hx => by
    simp only [FC, List.mem_cons, List.not_mem_nil, or_false] at hx
    rcases hx with rfl | rfl | rfl | rfl | rfl
    · show 0 < 5; decide
    · show 1 < 5; decide
    · show 2 < 5; decide
    · show 3 < 5; decide
    · show 4 < 5; decide
  have big : ∀ b ∈ N6, 17 ≤ piB b := by decide
  refine ⟨.cells false [], .inl ⟨rfl, rfl, rfl⟩, ⟨fun g hg => ?_, fun x hx => ?_, fun b hb x hx => ?_, ?_, ⟨rfl, rfl, rfl, rfl, rfl, rfl, trivial⟩, ?_⟩, fzi, big⟩
  · rw [gl3] at hg
    unfold piB
    rw [if_neg (by omega), if_neg (by omega), if_neg (by omega), if_neg (by omega), if_neg (by omega), if_neg (by omega)]
  · simp only [FC, List.mem_cons, List.not_mem_nil, or_false] at hx
    rcases hx with rfl | rfl | rfl | rfl | rfl <;> exact ⟨true, rfl⟩
  · rw [fzi x hx]
    have h1 := big b hb
    have h2 := fz5 x hx
    omega
  · show ∀ b ∈ N6, ∀ c ∈ N6, piB b = piB c → b = c
    decide
  · show ∀ k ∈ [22, 21, 20, 19, 18, 17, 0, 1, 2, 3, 4], k < 23
    decide
/-! ### Begin's end -/
def HBz (m : PM) (oL : AObj) : List (Nat × AObj) := HB (.cells false [.ptr 7 0, .ptr 9 0]) (.cells false (m.C (.map 8))) (mapO m.ms) (.cells false (m.C (LV m.ms 10))) oL
theorem b_out {m : PM} {F3 F4 : List AV} {s : AS} {π : Nat → Nat} {i : Nat} {l0 : AV} {q : Q5} (h3 : namess (fun _ => false) F3 = true) (h4 : namess (fun _ => false) F4 = true) (hl0 : L34 l0) (hq : Cq q) (hI : InvB m F3 F4 s π) :
    ∃ s' π' q' oL, Cq q' ∧ RO m.ms oL ∧ Sound Tryz.prog (.code (sR (sR (sR (bodyOf Tryz.prog 5)))) (rens π (TQ l0 i q)) s) ⟨.ret, rens π' (TQ l0 i q'), s'⟩ ∧ At Tryz.prog (HBz m oL) (FC F3 F4) s' π' ∧ (∀ x ∈ FC F3 F4, π' x.1 = x.1) ∧ ∀ b ∈ N6, 17 ≤ π' b := by
  obtain ⟨oL, hr, A, hz, h17⟩ := hI
  have K := kanB hr h3 h4
  have hx := runX_sound mixed none_sound (bg_out l0 i 0 0 0 0 0 q.1 q.2.1 q.2.2.1 q.2.2.2.1 q.2.2.2.2 .nilPtr .nilPtr (.cells false (m.C (.map 8))) .dead (mapO m.ms) .dead (.cells false (m.C (LV m.ms 10))) .dead oL .dead .dead F3 F4) trivial
  have hq' : Cq (q.1, q.2.1, q.2.2.1, q.2.2.2.1, .agg [junkA, junkA]) := ⟨hq.a, hq.b, hq.c, hq.d, rfl⟩
  obtain ⟨k5, k6, k7, k8, k9, k10, _⟩ := K.ok
  have hp : ∀ b, Nat.blt b 17 = true → pN 17 [] b = true := fun b h => by unfold pN; rw [h]; rfl
  obtain ⟨S1, hS1⟩ : ∃ S1 : AS, S1 = ⟨⟨HBz m oL ++ frz (FC F3 F4), 17, some 5, [5]⟩, 17⟩ := ⟨_, rfl⟩
  have hold : ∀ b ∈ N6, ((objAt S1 b).rw = true ∨ objAt S1 b = .dead) ∧ (objAt S1 b).names (pN 17 []) = true := by
    intro b hb
    subst hS1
    simp only [N6, List.mem_cons, List.not_mem_nil, or_false] at hb
    rcases hb with rfl | rfl | rfl | rfl | rfl | rfl
    · exact ⟨.inl rfl, rfl⟩
    · exact ⟨.inl k6.2.1, onames_sub hp k6.2.2.1⟩
    · exact ⟨.inl k7.2.1, onames_sub hp k7.2.2.1⟩
    · exact ⟨.inl k8.2.1, onames_sub hp k8.2.2.1⟩
    · exact ⟨.inl k9.2.1, onames_sub hp k9.2.2.1⟩
    · exact ⟨.inl k10.2.1, onames_sub hp k10.2.2.1⟩
  have n17 : 17 ≤ s.nx := by
    have h1 := A.lt (b := 5) (show 5 ∈ N6 by decide)
    have h2 := h17 5 (by decide)
    omega
  subst hS1
  obtain ⟨s', π', h, ha, hz', hb'⟩ := At.step2 (s1 := ⟨⟨HBz m oL ++ frz (FC F3 F4), 17, some 5, [5]⟩, 17⟩) (n0 := 17) (nx0 := 17) (new := []) (κ := fun b => b) (T' := TQ l0 i (q.1, q.2.1, q.2.2.1, q.2.2.2.1, .agg [junkA, junkA])) (bs' := HBz m oL) A K List.nodup_nil (fun b hb => by cases hb) (fun _ _ => rfl) (fun _ _ => rfl)
    ⟨⟨.inl (show 5 ∈ N6 by decide), congrArg some (oren_id _).symm⟩, ⟨.inl (show 6 ∈ N6 by decide), congrArg some (oren_id _).symm⟩, ⟨.inl (show 7 ∈ N6 by decide), congrArg some (oren_id _).symm⟩, ⟨.inl (show 8 ∈ N6 by decide), congrArg some (oren_id _).symm⟩, ⟨.inl (show 9 ∈ N6 by decide), congrArg some (oren_id _).symm⟩, ⟨.inl (show 10 ∈ N6 by decide), congrArg some (oren_id _).symm⟩, trivial⟩
    (fun _ _ _ _ h => h) hx (TQ_names hl0 i hq) hold (fun b hb => .inl hb) (TQ_names hl0 i hq') (by rw [rens_id]; unfold TQ TB; repeat (first | exact rfl | refine ⟨_, _, rfl, ?_, ?_⟩ | exact see_same _ | exact .inl ⟨rfl, rfl⟩))
  refine ⟨s', π', _, oL, hq', hr, h, ha, fun x hx => (hz' x hx).trans (hz x hx), fun b hb => ?_⟩
  rcases hb' b hb with ⟨d, hd, e⟩ | h
  · rw [e]; exact h17 d hd
  · omega
/-! ### Begin, whole -/
theorem BW_eq : bodyOf Tryz.prog 5 = .seq (sL (bodyOf Tryz.prog 5)) (.seq (sL (sR (bodyOf Tryz.prog 5))) (.seq (.seq (sL (sL (sR (sR (bodyOf Tryz.prog 5))))) (.block 0 (.loop cLB))) (sR (sR (sR (bodyOf Tryz.prog 5)))))) := by kernel_rfl
def x6z : AV := .agg [.nilSlice, .int .i64 (Int.ofNat 0), .int .u8 (Int.ofNat 0), .int .u8 (Int.ofNat 0), .int .i64 (Int.ofNat 0), .int .i64 (Int.ofNat 0), .int .u64 (Int.ofNat 0), .int .u64 (Int.ofNat 0), .bool false]
def q0 : Q5 := (x6z, .agg [junkA, junkA], undefA, undefA, undefA)
theorem b_code {F3 F4 : List AV} {l0 : AV} {fs : MS} (W : RwL 3 l0 F3 fs) (h4 : namess (fun _ => false) F4 = true) (h300 : fs.length ≤ 300) :
    ∃ s' π' q' oL, Cq q' ∧ RO (stAll fs PM0).ms oL ∧ (stAll fs PM0).Ok 300 ∧ Sound Tryz.prog (.code (bodyOf Tryz.prog 5) (l0 :: List.replicate 25 undefA) ((canF [] (FC F3 F4) 17 17).push (.cells false []))) ⟨.ret, rens π' (TQ l0 fs.length q'), s'⟩ ∧
      At Tryz.prog (HBz (stAll fs PM0) oL) (FC F3 F4) s' π' ∧ (∀ x ∈ FC F3 F4, π' x.1 = x.1) ∧ ∀ b ∈ N6, 17 ≤ π' b := by
  have hq0 : Cq q0 := ⟨rfl, rfl, rfl, rfl, rfl⟩
  obtain ⟨s1, π1, q1, hq1, h1, hI1, hok⟩ := b_loop W h4 h300 fs.length 0 0 PM0 (sB F3 F4) piB q0 rfl hq0 (Nat.zero_le _) PM0_ok (by omega) (b_start F3 F4)
  obtain ⟨s', π', q', oL, hq', hr, h2, ha, hz, hb⟩ := b_out (i := fs.length) W.fz h4 W.nm hq1 hI1
  have e0 : l0.ren piB = l0 := W.nm.ren rfl rfl
  have hx2 : Sound Tryz.prog (.code (sL (sL (sR (sR (bodyOf Tryz.prog 5))))) _ _) ⟨.normal, rens piB (TQ l0 0 q0), sB F3 F4⟩ := Sound.sees (runX_sound mixed none_sound (bh_2 l0 x6z F3 F4) trivial) (by
    show seesT _ _ (l0.ren piB :: rens piB ((TQ l0 0 q0).drop 1)) _
    rw [e0]
    repeat (first | exact rfl | refine ⟨_, _, rfl, ?_, ?_⟩ | exact see_same _ | exact .inl W.na | exact .inl ⟨rfl, rfl⟩))
  refine ⟨s', π', q', oL, hq', hr, hok.mono (by omega), ?_, ha, hz, hb⟩
  rw [BW_eq]
  exact seq_next (runX_sound mixed none_sound (bh_0 l0 x6z F3 F4) trivial) (seq_next (runX_sound mixed none_sound (bh_1 l0 x6z F3 F4) trivial) (seq_next (seq_next hx2 (block_exit h1 rfl)) h2))
/-! ### Begin, called -/
theorem aPr : isAggA Tryz.prog 30 = some true := by kernel_rfl
theorem sPr : sizeA Tryz.prog 30 = some 2 := by kernel_rfl
theorem b_res : Tryz.f5.results.toList = [ResultVar.cell 2 30] := by kernel_rfl
theorem b_call {F3 F4 : List AV} {l0 : AV} {fs : MS} (W : RwL 3 l0 F3 fs) (h4 : namess (fun _ => false) F4 = true) (h300 : fs.length ≤ 300) :
    ∃ s' π' oL, RO (stAll fs PM0).ms oL ∧ (stAll fs PM0).Ok 300 ∧ Sound Tryz.prog (.call 5 [l0] (canF [] (FC F3 F4) 17 17)) ⟨.ret, [.agg [.ptr (π' 7) 0, .ptr (π' 9) 0]], s'⟩ ∧
      At Tryz.prog (HBz (stAll fs PM0) oL) (FC F3 F4) s' π' ∧ (∀ x ∈ FC F3 F4, π' x.1 = x.1) ∧ ∀ b ∈ N6, 17 ≤ π' b := by
  obtain ⟨s', π', q', oL, hq, hr, hok, h, ha, hz, hb⟩ := b_code W h4 h300
  have h5 : s'.get (π' 5) = some (.cells false [.ptr (π' 7) 0, .ptr (π' 9) 0]) := ha.at_.1
  have hl : loadA Tryz.prog s' 30 (.ptr (π' 5) 0) = some (.agg [.ptr (π' 7) 0, .ptr (π' 9) 0]) := by
    simp only [loadA, aPr, sPr, readA, h5]
    rfl
  refine ⟨s', π', oL, hr, hok, Sound.phantom (.cells false []) (call_whole (fn := Tryz.f5) (vs := [.agg [.ptr (π' 7) 0, .ptr (π' 9) 0]]) Tryz.func5 (show Tryz.f5.body = some (bodyOf Tryz.prog 5) by kernel_rfl) h (.inr rfl) ?_), ha, hz, hb⟩
  rw [b_res]
  have ht : tget (rens π' (TQ l0 fs.length q')) 2 = .ptr (π' 5) 0 := rfl
  simp only [resultsA, resultA, ht, hl]
/-! ### Begin's call, anywhere -/
theorem b_place {F3 F4 : List AV} {l0 : AV} {fs : MS} (W : RwL 3 l0 F3 fs) (h4 : namess (fun _ => false) F4 = true) (h300 : fs.length ≤ 300) :
    ∃ oL, RO (stAll fs PM0).ms oL ∧ (stAll fs PM0).Ok 300 ∧ ∀ s : AS, (∀ x ∈ FC F3 F4, ∃ ro, s.get x.1 = some (.cells ro x.2)) →
      Sound Tryz.prog (.call 5 [l0] s) ⟨.ret, [.agg [.ptr s.nx 0, .ptr (s.nx + 2) 0]], (((s.push (.cells false ((stAll fs PM0).C (.map (s.nx + 1))))).push (mapO (stAll fs PM0).ms)).push (.cells false ((stAll fs PM0).C (LV (stAll fs PM0).ms (s.nx + 3))))).push oL⟩ := by
  obtain ⟨s1, π, oL, hr, hok, h, ha, hz, hb⟩ := b_call W h4 h300
  refine ⟨oL, hr, hok, fun s hs => ?_⟩
  generalize stAll fs PM0 = m at *
  have ne : ∀ b ∈ N6, ∀ c ∈ N6, b ≠ c → π b ≠ π c := fun b hb c hc hn he => hn (ha.inj b hb c hc he)
  have n78 := ne 7 (by decide) 8 (by decide) (by decide)
  have n79 := ne 7 (by decide) 9 (by decide) (by decide)
  have n710 := ne 7 (by decide) 10 (by decide) (by decide)
  have n89 := ne 8 (by decide) 9 (by decide) (by decide)
  have n810 := ne 8 (by decide) 10 (by decide) (by decide)
  have n910 := ne 9 (by decide) 10 (by decide) (by decide)
  have g7 : s1.get (π 7) = some (.cells false (m.C (.map (π 8)))) := ha.at_.2.2.1
  have g8 : s1.get (π 8) = some (mapO m.ms) := by have this : s1.get (π 8) = some ((mapO m.ms).ren π) := ha.at_.2.2.2.1; rw [mapO_ren] at this; exact this
  have g9 : s1.get (π 9) = some (.cells false (m.C (LV m.ms (π 10)))) := by
    have := ha.at_.2.2.2.2.1
    have this : s1.get (π 9) = some (.cells false (m.C ((LV m.ms 10).ren π))) := this
    rw [LV_ren] at this
    exact this
  have g10 : s1.get (π 10) = some oL := by have this : s1.get (π 10) = some (oL.ren π) := ha.at_.2.2.2.2.2.1; rw [hr.free.ren] at this; exact this
  have ob : ∀ {b : Nat} {o : AObj}, s1.get b = some o → objAt s1 b = o := fun h => by simp [objAt, h]
  have pr : ∀ k, k ∈ N6 → pR 17 [π 7, π 8, π 9, π 10] (fun b => b) s.nx (π k) = s.nx + [π 7, π 8, π 9, π 10].idxOf (π k) := fun k hk => if_neg (by have := hb k hk; omega)
  have p7 : pR 17 [π 7, π 8, π 9, π 10] (fun b => b) s.nx (π 7) = s.nx := by rw [pr 7 (by decide)]; simp [List.idxOf_cons]
  have p8 : pR 17 [π 7, π 8, π 9, π 10] (fun b => b) s.nx (π 8) = s.nx + 1 := by rw [pr 8 (by decide)]; simp [List.idxOf_cons, beq_eq_false_iff_ne.2 n78]
  have p9 : pR 17 [π 7, π 8, π 9, π 10] (fun b => b) s.nx (π 9) = s.nx + 2 := by rw [pr 9 (by decide)]; simp [List.idxOf_cons, beq_eq_false_iff_ne.2 n79, beq_eq_false_iff_ne.2 n89]
  have p10 : pR 17 [π 7, π 8, π 9, π 10] (fun b => b) s.nx (π 10) = s.nx + 3 := by rw [pr 10 (by decide)]; simp [List.idxOf_cons, beq_eq_false_iff_ne.2 n710, beq_eq_false_iff_ne.2 n810, beq_eq_false_iff_ne.2 n910]
  have inn : ∀ k ∈ [7, 8, 9, 10], pN 17 [π 7, π 8, π 9, π 10] (π k) = true := by
    intro k hk
    simp only [List.mem_cons, List.not_mem_nil, or_false] at hk
    unfold pN
    rcases hk with rfl | rfl | rfl | rfl <;> simp
  have := Sound.putFG (bs0 := []) (Fz := FC F3 F4) h (fun b => b) (fun g hg => ⟨by rw [gl3] at hg; omega, rfl⟩) [π 7, π 8, π 9, π 10] s
    (fun x hx => by
      have K := (kanB hr W.fz h4).fz x hx
      exact ⟨K.1, by simp, K.2.2, hs x hx, fun b hb => by cases hb⟩) trivial (fun _ _ _ _ h => h) List.nodup_nil
    (by simp only [List.nodup_cons, List.mem_cons, List.not_mem_nil, or_false, not_or, not_false_eq_true, List.nodup_nil, and_true]; exact ⟨⟨n78, n79, n710⟩, ⟨n89, n810⟩, n910⟩)
    (fun b hb' => by
      simp only [List.mem_cons, List.not_mem_nil, or_false] at hb'
      rcases hb' with rfl | rfl | rfl | rfl
      · rw [ob g7]; exact ⟨hb 7 (by decide), rfl, C_names _ _ _ (inn 8 (by simp))⟩
      · rw [ob g8]; exact ⟨hb 8 (by decide), rfl, mapO_names _ _⟩
      · rw [ob g9]; exact ⟨hb 9 (by decide), rfl, C_names _ _ _ (LV_names _ _ _ (inn 10 (by simp)))⟩
      · rw [ob g10]; exact ⟨hb 10 (by decide), hr.free.1, hr.free.nm _⟩)
    (by show (l0.names _ && true) = true; rw [W.nm.nm rfl rfl]; rfl)
    (by show (pN _ _ _ && (pN _ _ _ && true)) = true; rw [inn 7 (by simp), inn 9 (by simp)]; rfl)
  rw [rens_id] at this
  simp only [List.map_nil, List.map_cons, setL, pushL, ob g7, ob g8, ob g9, ob g10, mapO_ren, hr.free.ren] at this
  have e7 : (AObj.cells false (m.C (.map (π 8)))).ren (pR 17 [π 7, π 8, π 9, π 10] (fun b => b) s.nx) = .cells false (m.C (.map (s.nx + 1))) := by
    show AObj.cells false (m.C (.map (pR _ _ _ _ (π 8)))) = _
    rw [p8]
  have e9 : (AObj.cells false (m.C (LV m.ms (π 10)))).ren (pR 17 [π 7, π 8, π 9, π 10] (fun b => b) s.nx) = .cells false (m.C (LV m.ms (s.nx + 3))) := by
    show AObj.cells false (m.C ((LV m.ms (π 10)).ren _)) = _
    rw [LV_ren, p10]
  have ev : (AV.agg [.ptr (π 7) 0, .ptr (π 9) 0]).ren (pR 17 [π 7, π 8, π 9, π 10] (fun b => b) s.nx) = .agg [.ptr s.nx 0, .ptr (s.nx + 2) 0] := by
    show AV.agg [.ptr (pR _ _ _ _ (π 7)) 0, .ptr (pR _ _ _ _ (π 9)) 0] = _
    rw [p7, p9]
  rw [e7, e9, ev] at this
  exact this
end Go.Proofs.YtchekpapgfojhaaGreatDoor.ctlsFallback
