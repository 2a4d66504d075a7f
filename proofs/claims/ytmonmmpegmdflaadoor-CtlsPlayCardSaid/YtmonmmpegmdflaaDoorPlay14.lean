/- The loop of the law. Conditions: those that each theorem names, and no others. -/
import Derived.Test.YtmonmmpegmdflaaDoorPlay13
import Derived.Test.YtmonmmpegmdflaaDoorPlay12
namespace Go.Proofs.YtmonmmpegmdflaaDoor.ctlsPlay
open Go Go.Mini
/-! ### what holds between the pieces of the loop -/
/-- x is in σx, the program's memory in mx; y in σy, the document's memory in mr. -/
structure Facts (σx : SS) (mx : PM) (σy : SS) (mr : PM) (to : Nat) (oL : AObj) (nxt : AV) (xa xb xc xn : Nat) (bpx bp : AV) (o13 o14 o15 o16 d1 d2 d3 : AObj) : Prop where
  row : RO mr.ms oL
  l13 : Lx o13
  l15 : Lx o15
  l16 : Lx o16
  xs : XS σx to 13 15 16 nxt xa xb xc xn bpx (O6 o13 o15 o16 d1 d2 d3)
  bp : Bp0 σy bp o14
def InvG (σx : SS) (mx : PM) (σy : SS) (mr : PM) (to : Nat) (lk th : Int) (F3 F4 : List AV) (s : AS) (π : Nat → Nat) : Prop :=
  ∃ oL nxt xa xb xc xn bpx bp o13 o14 o15 o16 d1 d2 d3, Facts σx mx σy mr to oL nxt xa xb xc xn bpx bp o13 o14 o15 o16 d1 d2 d3 ∧
    At Tryd.prog (HC to lk th (.cells false (mx.C (.map 8))) (mapO mx.ms) (.cells false (mr.C (LV mr.ms 10))) oL (.cells false (σx.X to lk nxt xa xb xc xn bpx)) (.cells false (σy.Y to lk bp)) o13 o14 o15 o16) (FC F3 F4) s π
theorem NX_lt {σ : SS} {to n15 n16 : Nat} {nxt : AV} {O : Nat → AObj} (h : NX σ to n15 n16 nxt O) (p : Nat → Bool) (h11 : p 11 = true) (h15 : p n15 = true) (h16 : p n16 = true) : nxt.names p = true := by
  unfold NX at h
  split at h
  · rw [h]; rfl
  · rw [h]; show ((p 11 && true) && true) = true; rw [h11]; rfl
  · rw [h.1]; show (true && (p n15 && (p n16 && true))) = true; rw [h15, h16]; rfl
  · rw [h.1]; show (true && (p n15 && (p n16 && true))) = true; rw [h15, h16]; rfl
  · rw [h.1]; show (true && (p n15 && true)) = true; rw [h15]; rfl
  · rw [h]; show ((p 11 && true) && true) = true; rw [h11]; rfl
  · rw [h.1]; show (true && (p n15 && (p n16 && true))) = true; rw [h15, h16]; rfl
  · rw [h.1]; show (true && (p n15 && true)) = true; rw [h15]; rfl
  · rw [h]; show ((p 11 && true) && true) = true; rw [h11]; rfl
theorem WX_lt {σ : SS} {n13 : Nat} {bpx : AV} {O : Nat → AObj} (h : WX σ n13 bpx O) (p : Nat → Bool) (h13 : p n13 = true) : bpx.names p = true := by
  unfold WX at h
  split at h
  · rw [h.1]; exact h13
  · rcases h with ⟨e, _⟩ | ⟨_, e, _⟩ <;> rw [e]
    · rfl
    · exact h13
theorem X_lt {σ : SS} {to n13 n15 n16 : Nat} {lk : Int} {nxt : AV} {xa xb xc xn : Nat} {bpx : AV} {O : Nat → AObj} (h : XS σ to n13 n15 n16 nxt xa xb xc xn bpx O) (p : Nat → Bool) (h11 : p 11 = true) (h13 : p n13 = true) (h15 : p n15 = true) (h16 : p n16 = true) : namess p (σ.X to lk nxt xa xb xc xn bpx) = true := by
  show (nxt.names p && (true && (true && (true && (true && (true && (true && (true && (true && (true && (bpx.names p && true))))))))))) = true
  rw [NX_lt h.nx p h11 h15 h16, WX_lt h.wx p h13]
  rfl
section
variable {σx : SS} {mx : PM} {σy : SS} {mr : PM} {to : Nat} {lk th : Int} {oL : AObj} {nxt : AV} {xa xb xc xn : Nat} {bpx bp : AV} {o13 o14 o15 o16 d1 d2 d3 : AObj}
theorem Facts.kan (h : Facts σx mx σy mr to oL nxt xa xb xc xn bpx bp o13 o14 o15 o16 d1 d2 d3) {F3 F4 : List AV} (h3 : namess (fun _ => false) F3 = true) (h4 : namess (fun _ => false) F4 = true) :
    Kan Tryd.prog (HC to lk th (.cells false (mx.C (.map 8))) (mapO mx.ms) (.cells false (mr.C (LV mr.ms 10))) oL (.cells false (σx.X to lk nxt xa xb xc xn bpx)) (.cells false (σy.Y to lk bp)) o13 o14 o15 o16) (FC F3 F4) 17 where
  glob := by rw [gl3]; decide
  ok := by
    refine ⟨⟨show 5 < 17 by decide, rfl, rfl, rfl⟩, ⟨show 6 < 17 by decide, rfl, rfl, rfl⟩, ⟨show 7 < 17 by decide, rfl, rfl, rfl⟩, ⟨show 8 < 17 by decide, rfl, mapO_names _ _, rfl⟩, ⟨show 9 < 17 by decide, rfl, C_names _ _ _ (LV_names _ _ _ rfl), rfl⟩, ⟨show 10 < 17 by decide, h.row.free.1, h.row.free.nm _, rfl⟩,
      ⟨show 11 < 17 by decide, rfl, X_lt h.xs _ rfl rfl rfl rfl, rfl⟩, ⟨show 12 < 17 by decide, rfl, ?_, rfl⟩, ⟨show 13 < 17 by decide, h.l13.1, h.l13.nm rfl, rfl⟩, ⟨show 14 < 17 by decide, h.bp.1.1, h.bp.1.nm _, rfl⟩, ⟨show 15 < 17 by decide, h.l15.1, h.l15.nm rfl, rfl⟩, ⟨show 16 < 17 by decide, h.l16.1, h.l16.nm rfl, rfl⟩, trivial⟩
    show (bp.names _ && true) = true
    rw [h.bp.names]
    rfl
  nodup := show [5, 6, 7, 8, 9, 10, 11, 12, 13, 14, 15, 16].Nodup by decide
  fz := by
    intro x hx
    simp only [FC, List.mem_cons, List.not_mem_nil, or_false] at hx
    rcases hx with rfl | rfl | rfl | rfl | rfl
    · exact ⟨show 0 < 17 by decide, show 0 ∉ [5, 6, 7, 8, 9, 10, 11, 12, 13, 14, 15, 16] by decide, rfl⟩
    · exact ⟨show 1 < 17 by decide, show 1 ∉ [5, 6, 7, 8, 9, 10, 11, 12, 13, 14, 15, 16] by decide, rfl⟩
    · exact ⟨show 2 < 17 by decide, show 2 ∉ [5, 6, 7, 8, 9, 10, 11, 12, 13, 14, 15, 16] by decide, rfl⟩
    · exact ⟨show 3 < 17 by decide, show 3 ∉ [5, 6, 7, 8, 9, 10, 11, 12, 13, 14, 15, 16] by decide, h3⟩
    · exact ⟨show 4 < 17 by decide, show 4 ∉ [5, 6, 7, 8, 9, 10, 11, 12, 13, 14, 15, 16] by decide, h4⟩
end
theorem Y_all {σ : SS} {to : Nat} {lk : Int} {m : PM} {h : AH} {bp : AV} {o10 o14 : AObj} (hO : σ.Ok to lk) (hl : m.ms.length < 16776000) (k12 : AS.get ⟨h, 17⟩ 12 = some (.cells false (σ.Y to lk bp))) (k9 : AS.get ⟨h, 17⟩ 9 = some (.cells false (m.C (LV m.ms 10)))) (k10 : AS.get ⟨h, 17⟩ 10 = some o10) (hr : RO m.ms o10) (k14 : AS.get ⟨h, 17⟩ 14 = some o14) (hbp : Bp0 σ bp o14) (hmv : ∀ a, getW m.ms a < 18446744073709551616) :
    YC σ to lk m h (σ.step to lk m) := by
  obtain ⟨ln, en, w, wt, a, b, c, n, br⟩ := σ
  have h1 : 1 ≤ ln ∧ ln ≤ 8 := hO.ln
  have h2 : en = 4 := hO.en
  subst h2
  have hln : ln = 1 ∨ ln = 2 ∨ ln = 3 ∨ ln = 4 ∨ ln = 5 ∨ ln = 6 ∨ ln = 7 ∨ ln = 8 := by omega
  rcases hln with rfl | rfl | rfl | rfl | rfl | rfl | rfl | rfl
  · exact Y_1 hO hl k12 k9 k10 hr k14 hbp hmv
  · exact Y_2 hO hl k12 k9 k10 hr k14 hbp hmv
  · exact Y_3 hO hl k12 k9 k10 hr k14 hbp hmv
  · exact Y_4 hO hl k12 k9 k10 hr k14 hbp hmv
  · exact Y_5 hO hl k12 k9 k10 hr k14 hbp hmv
  · exact Y_6 hO hl k12 k9 k10 hr k14 hbp hmv
  · exact Y_7 hO hl k12 k9 k10 hr k14 hbp hmv
  · exact Y_8 hO hl k12 k9 k10 hr k14 hbp hmv
theorem X_all {σ : SS} {to xa xb xc xn : Nat} {lk : Int} {m : PM} {h : AH} {nxt bpx : AV} {o13 o15 o16 d1 d2 d3 : AObj} (hO : σ.Ok to lk) (k11 : AS.get ⟨h, 17⟩ 11 = some (.cells false (σ.X to lk nxt xa xb xc xn bpx))) (k7 : AS.get ⟨h, 17⟩ 7 = some (.cells false (m.C (.map 8)))) (k8 : AS.get ⟨h, 17⟩ 8 = some (mapO m.ms)) (k13 : AS.get ⟨h, 17⟩ 13 = some o13) (k15 : AS.get ⟨h, 17⟩ 15 = some o15) (k16 : AS.get ⟨h, 17⟩ 16 = some o16)
    (kG : ∀ x ∈ GF, ∃ ro, AS.get ⟨h, 17⟩ x.1 = some (.cells ro x.2)) (h13 : Lx o13) (h15 : Lx o15) (h16 : Lx o16) (hX : XS σ to 13 15 16 nxt xa xb xc xn bpx (O6 o13 o15 o16 d1 d2 d3)) (hmv : ∀ a, getW m.ms a < 18446744073709551616) :
    XC to lk h (σ.step to lk m) := by
  obtain ⟨ln, en, w, wt, a, b, c, n, br⟩ := σ
  have h1 : 1 ≤ ln ∧ ln ≤ 8 := hO.ln
  have h2 : en = 4 := hO.en
  subst h2
  have hln : ln = 1 ∨ ln = 2 ∨ ln = 3 ∨ ln = 4 ∨ ln = 5 ∨ ln = 6 ∨ ln = 7 ∨ ln = 8 := by omega
  rcases hln with rfl | rfl | rfl | rfl | rfl | rfl | rfl | rfl
  · exact X_1 hO k11 k7 k8 k13 k15 k16 kG h13 h15 h16 hX hmv
  · exact X_2 hO k11 k7 k8 k13 k15 k16 kG h13 h15 h16 hX hmv
  · exact X_3 hO k11 k7 k8 k13 k15 k16 kG h13 h15 h16 hX hmv
  · exact X_4 hO k11 k7 k8 k13 k15 k16 kG h13 h15 h16 hX hmv
  · exact X_5 hO k11 k7 k8 k13 k15 k16 kG h13 h15 h16 hX hmv
  · exact X_6 hO k11 k7 k8 k13 k15 k16 kG h13 h15 h16 hX hmv
  · exact X_7 hO k11 k7 k8 k13 k15 k16 kG h13 h15 h16 hX hmv
  · exact X_8 hO k11 k7 k8 k13 k15 k16 kG h13 h15 h16 hX hmv
/-! ### a piece of the loop, wherever the small heap lies -/
def T0 (l0 l1 : AV) (to : Nat) (lk th : Int) (i : Nat) (q : AV × AV × AV) : List AV := TT l0 l1 to lk th i q.1 q.2.1 q.2.2
/-- What the slots of aggregates hold: nothing that names a block. -/
def Cl (q : AV × AV × AV) : Prop := q.1.names (fun _ => false) = true ∧ q.2.1.names (fun _ => false) = true ∧ q.2.2.names (fun _ => false) = true
theorem cl_nm {x : AV} (h : x.names (fun _ => false) = true) (p : Nat → Bool) : x.names p = true := names_sub (fun _ h => by cases h) h
theorem cl_ren {x : AV} (h : x.names (fun _ => false) = true) (π : Nat → Nat) : x.ren π = x := by rw [ren_congr (p := fun _ => false) (π' := fun b => b) (fun _ h => by cases h) h, ren_id]
def L34 (l : AV) : Prop := l.names (fun b => Nat.beq b 3 || Nat.beq b 4) = true
theorem L34.nm {l : AV} (h : L34 l) {p : Nat → Bool} (h3 : p 3 = true) (h4 : p 4 = true) : l.names p = true := names_sub (fun b hb => by
  rcases Bool.or_eq_true_iff.1 hb with e | e
  · rw [Nat.eq_of_beq_eq_true e]; exact h3
  · rw [Nat.eq_of_beq_eq_true e]; exact h4) h
theorem L34.ren {l : AV} (h : L34 l) {π : Nat → Nat} (h3 : π 3 = 3) (h4 : π 4 = 4) : l.ren π = l := by
  rw [ren_congr (p := fun b => Nat.beq b 3 || Nat.beq b 4) (π' := fun b => b) (fun b hb => by
    rcases Bool.or_eq_true_iff.1 hb with e | e
    · rw [Nat.eq_of_beq_eq_true e]; exact h3
    · rw [Nat.eq_of_beq_eq_true e]; exact h4) h, ren_id]
def kap (k10 k13 k14 k15 k16 b : Nat) : Nat := if b = 10 then k10 else if b = 13 then k13 else if b = 14 then k14 else if b = 15 then k15 else if b = 16 then k16 else b
theorem kap_lo {k10 k13 k14 k15 k16 b : Nat} (h : b ∉ [10, 13, 14, 15, 16]) : kap k10 k13 k14 k15 k16 b = b := by
  simp only [List.mem_cons, List.not_mem_nil, or_false, not_or] at h
  unfold kap
  rw [if_neg h.1, if_neg h.2.1, if_neg h.2.2.1, if_neg h.2.2.2.1, if_neg h.2.2.2.2]
theorem T0_names {l0 l1 : AV} (h0 : L34 l0) (h1 : L34 l1) (to : Nat) (lk th : Int) (i : Nat) {q : AV × AV × AV} (hq : Cl q) : namess (fun b => Nat.blt b 17) (T0 l0 l1 to lk th i q) = true := by
  have e0 : l0.names (fun b => Nat.blt b 17) = true := h0.nm rfl rfl
  have e1 : l1.names (fun b => Nat.blt b 17) = true := h1.nm rfl rfl
  unfold T0 TT
  simp only [namess, e0, e1, cl_nm hq.1, cl_nm hq.2.1, cl_nm hq.2.2, Bool.true_and, Bool.and_true]
  rfl
theorem T0_kap {l0 l1 : AV} (h0 : L34 l0) (h1 : L34 l1) (to : Nat) (lk th : Int) (i k10 k13 k14 k15 k16 : Nat) {q : AV × AV × AV} (hq : Cl q) : rens (kap k10 k13 k14 k15 k16) (T0 l0 l1 to lk th i q) = T0 l0 l1 to lk th i q := by
  have e0 : l0.ren (kap k10 k13 k14 k15 k16) = l0 := h0.ren rfl rfl
  have e1 : l1.ren (kap k10 k13 k14 k15 k16) = l1 := h1.ren rfl rfl
  unfold T0 TT
  simp only [rens, e0, e1, cl_ren hq.1, cl_ren hq.2.1, cl_ren hq.2.2]
  rfl
def N12 : List Nat := [5, 6, 7, 8, 9, 10, 11, 12, 13, 14, 15, 16]
theorem kap_in {k10 k13 k14 k15 k16 : Nat} {new : List Nat} (q10 : k10 = 10 ∨ k10 ∈ new) (q13 : k13 = 13 ∨ k13 ∈ new) (q14 : k14 = 14 ∨ k14 ∈ new) (q15 : k15 = 15 ∨ k15 ∈ new) (q16 : k16 = 16 ∨ k16 ∈ new) (b : Nat) : kap k10 k13 k14 k15 k16 b = b ∨ kap k10 k13 k14 k15 k16 b ∈ new := by
  unfold kap
  split
  · rename_i e; rw [e]; exact q10
  split
  · rename_i e; rw [e]; exact q13
  split
  · rename_i e; rw [e]; exact q14
  split
  · rename_i e; rw [e]; exact q15
  split
  · rename_i e; rw [e]; exact q16
  exact .inl rfl
theorem kap_cases (k10 k13 k14 k15 k16 b : Nat) : (kap k10 k13 k14 k15 k16 b = b ∧ b ≠ 10 ∧ b ≠ 13 ∧ b ≠ 14 ∧ b ≠ 15 ∧ b ≠ 16) ∨ (b = 10 ∧ kap k10 k13 k14 k15 k16 b = k10) ∨ (b = 13 ∧ kap k10 k13 k14 k15 k16 b = k13) ∨ (b = 14 ∧ kap k10 k13 k14 k15 k16 b = k14) ∨ (b = 15 ∧ kap k10 k13 k14 k15 k16 b = k15) ∨ (b = 16 ∧ kap k10 k13 k14 k15 k16 b = k16) := by
  by_cases e : b ∉ [10, 13, 14, 15, 16]
  · have := kap_lo (k10 := k10) (k13 := k13) (k14 := k14) (k15 := k15) (k16 := k16) e
    simp only [List.mem_cons, List.not_mem_nil, or_false, not_or] at e
    exact .inl ⟨this, e.1, e.2.1, e.2.2.1, e.2.2.2.1, e.2.2.2.2⟩
  · simp only [List.mem_cons, List.not_mem_nil, or_false, Classical.not_not] at e
    rcases e with rfl | rfl | rfl | rfl | rfl
    · exact .inr (.inl ⟨rfl, rfl⟩)
    · exact .inr (.inr (.inl ⟨rfl, rfl⟩))
    · exact .inr (.inr (.inr (.inl ⟨rfl, rfl⟩)))
    · exact .inr (.inr (.inr (.inr (.inl ⟨rfl, rfl⟩))))
    · exact .inr (.inr (.inr (.inr (.inr ⟨rfl, rfl⟩))))
theorem kap_no {b k a : Nat} (hb : b < 17) (h : b = k) (q : k = a ∨ 17 ≤ k) (hne : b ≠ a) : False := by omega
theorem N12_lt {b : Nat} (h : b ∈ N12) : b < 17 := by
  simp only [N12, List.mem_cons, List.not_mem_nil, or_false] at h
  omega
theorem kap_inj {k10 k13 k14 k15 k16 : Nat} (q10 : k10 = 10 ∨ 17 ≤ k10) (q13 : k13 = 13 ∨ 17 ≤ k13) (q14 : k14 = 14 ∨ 17 ≤ k14) (q15 : k15 = 15 ∨ 17 ≤ k15) (q16 : k16 = 16 ∨ 17 ≤ k16) (nd : [k10, k13, k14, k15, k16].Nodup) {b c : Nat} (hb : b < 17) (hc : c < 17) (h : kap k10 k13 k14 k15 k16 b = kap k10 k13 k14 k15 k16 c) : b = c := by
  simp only [List.nodup_cons, List.mem_cons, List.not_mem_nil, or_false, not_or, not_false_eq_true, List.nodup_nil, and_true] at nd
  obtain ⟨⟨d1, d2, d3, d4⟩, ⟨d5, d6, d7⟩, ⟨d8, d9⟩, d10⟩ := nd
  rcases kap_cases k10 k13 k14 k15 k16 b with u | u | u | u | u | u <;> rcases kap_cases k10 k13 k14 k15 k16 c with v | v | v | v | v | v
  · rw [u.1, v.1] at h; exact h
  · rw [u.1, v.2] at h; exact (kap_no hb h q10 u.2.1).elim
  · rw [u.1, v.2] at h; exact (kap_no hb h q13 u.2.2.1).elim
  · rw [u.1, v.2] at h; exact (kap_no hb h q14 u.2.2.2.1).elim
  · rw [u.1, v.2] at h; exact (kap_no hb h q15 u.2.2.2.2.1).elim
  · rw [u.1, v.2] at h; exact (kap_no hb h q16 u.2.2.2.2.2).elim
  · rw [u.2, v.1] at h; exact (kap_no hc h.symm q10 v.2.1).elim
  · rw [u.1, v.1]
  · rw [u.2, v.2] at h; exact absurd h d1
  · rw [u.2, v.2] at h; exact absurd h d2
  · rw [u.2, v.2] at h; exact absurd h d3
  · rw [u.2, v.2] at h; exact absurd h d4
  · rw [u.2, v.1] at h; exact (kap_no hc h.symm q13 v.2.2.1).elim
  · rw [u.2, v.2] at h; exact absurd h.symm d1
  · rw [u.1, v.1]
  · rw [u.2, v.2] at h; exact absurd h d5
  · rw [u.2, v.2] at h; exact absurd h d6
  · rw [u.2, v.2] at h; exact absurd h d7
  · rw [u.2, v.1] at h; exact (kap_no hc h.symm q14 v.2.2.2.1).elim
  · rw [u.2, v.2] at h; exact absurd h.symm d2
  · rw [u.2, v.2] at h; exact absurd h.symm d5
  · rw [u.1, v.1]
  · rw [u.2, v.2] at h; exact absurd h d8
  · rw [u.2, v.2] at h; exact absurd h d9
  · rw [u.2, v.1] at h; exact (kap_no hc h.symm q15 v.2.2.2.2.1).elim
  · rw [u.2, v.2] at h; exact absurd h.symm d3
  · rw [u.2, v.2] at h; exact absurd h.symm d6
  · rw [u.2, v.2] at h; exact absurd h.symm d8
  · rw [u.1, v.1]
  · rw [u.2, v.2] at h; exact absurd h d10
  · rw [u.2, v.1] at h; exact (kap_no hc h.symm q16 v.2.2.2.2.2).elim
  · rw [u.2, v.2] at h; exact absurd h.symm d4
  · rw [u.2, v.2] at h; exact absurd h.symm d7
  · rw [u.2, v.2] at h; exact absurd h.symm d9
  · rw [u.2, v.2] at h; exact absurd h.symm d10
  · rw [u.1, v.1]
section
variable {σx σy σx' σy' : SS} {mx mr mx' mr' : PM} {to : Nat} {lk th : Int} {oL oL' : AObj} {nxt nxt' : AV} {xa xb xc xn xa' xb' xc' xn' : Nat} {bpx bp bpx' bp' : AV} {o13 o14 o15 o16 d1 d2 d3 o13' o14' o15' o16' d1' d2' d3' : AObj} {F3 F4 : List AV} {Cd : Code} {e : AExit} {ts1 : List AV} {s1 s : AS} {π : Nat → Nat} {i i' : Nat} {l0 l1 : AV} {q q' : AV × AV × AV}
theorem stepG (F : Facts σx mx σy mr to oL nxt xa xb xc xn bpx bp o13 o14 o15 o16 d1 d2 d3) (h3 : namess (fun _ => false) F3 = true) (h4 : namess (fun _ => false) F4 = true)
    (A : At Tryd.prog (HC to lk th (.cells false (mx.C (.map 8))) (mapO mx.ms) (.cells false (mr.C (LV mr.ms 10))) oL (.cells false (σx.X to lk nxt xa xb xc xn bpx)) (.cells false (σy.Y to lk bp)) o13 o14 o15 o16) (FC F3 F4) s π)
    (h : Sound Tryd.prog (.code Cd (T0 l0 l1 to lk th i q) (canF (HC to lk th (.cells false (mx.C (.map 8))) (mapO mx.ms) (.cells false (mr.C (LV mr.ms 10))) oL (.cells false (σx.X to lk nxt xa xb xc xn bpx)) (.cells false (σy.Y to lk bp)) o13 o14 o15 o16) (FC F3 F4) 17 17)) ⟨e, ts1, s1⟩)
    (hl0 : L34 l0) (hl1 : L34 l1) (hq : Cl q) (hq' : Cl q') (hts : seesT (fun b => b) (fun _ => true) (T0 l0 l1 to lk th i' q') ts1)
    (new : List Nat) (hn : new.Nodup) (k10 k13 k14 k15 k16 : Nat) (q10 : k10 = 10 ∨ k10 ∈ new) (q13 : k13 = 13 ∨ k13 ∈ new) (q14 : k14 = 14 ∨ k14 ∈ new) (q15 : k15 = 15 ∨ k15 ∈ new) (q16 : k16 = 16 ∨ k16 ∈ new) (nd : [k10, k13, k14, k15, k16].Nodup)
    (hnew : ∀ b ∈ new, 17 ≤ b ∧ (objAt s1 b).rw = true ∧ (objAt s1 b).names (pN 17 new) = true)
    (hold : ∀ b ∈ [10, 13, 14, 15, 16], ((objAt s1 b).rw = true ∨ objAt s1 b = .dead) ∧ (objAt s1 b).names (pN 17 new) = true)
    (F' : Facts σx' mx' σy' mr' to oL' nxt' xa' xb' xc' xn' bpx' bp' o13' o14' o15' o16' d1' d2' d3')
    (g5 : s1.get 5 = some (.cells false [.int .u8 (Int.ofNat to), .int .i64 lk, .int .i64 th])) (g6 : s1.get 6 = some (.cells false [.ptr 7 0, .ptr 9 0]))
    (g7 : s1.get 7 = some (.cells false (mx'.C (.map 8)))) (g8 : s1.get 8 = some (mapO mx'.ms)) (g9 : s1.get 9 = some (.cells false (mr'.C (LV mr'.ms k10)))) (g10 : s1.get k10 = some oL')
    (g11 : s1.get 11 = some (.cells false (σx'.X to lk (nxt'.ren (kap k10 k13 k14 k15 k16)) xa' xb' xc' xn' (bpx'.ren (kap k10 k13 k14 k15 k16))))) (g12 : s1.get 12 = some (.cells false (σy'.Y to lk (bp'.ren (kap k10 k13 k14 k15 k16)))))
    (g13 : s1.get k13 = some o13') (g14 : s1.get k14 = some o14') (g15 : s1.get k15 = some o15') (g16 : s1.get k16 = some o16') :
    ∃ s' π', Sound Tryd.prog (.code Cd (rens π (T0 l0 l1 to lk th i q)) s) ⟨e, rens π' (T0 l0 l1 to lk th i' q'), s'⟩ ∧ InvG σx' mx' σy' mr' to lk th F3 F4 s' π' := by
  have K := F.kan (lk := lk) (th := th) h3 h4
  have big : ∀ {k a : Nat}, k = a ∨ k ∈ new → k = a ∨ 17 ≤ k := fun h => h.imp id fun h => (hnew _ h).1
  have kin := kap_in (k10 := k10) (k13 := k13) (k14 := k14) (k15 := k15) (k16 := k16) q10 q13 q14 q15 q16
  have kN : ∀ b, Nat.blt b 17 = true → pN 17 new (kap k10 k13 k14 k15 k16 b) = true := fun b hb => by
    unfold pN
    rcases kin b with h | h
    · rw [h, hb]; rfl
    · simp [h]
  have ob : ∀ {b : Nat} {o : AObj}, s1.get b = some o → objAt s1 b = o := fun h => by simp [objAt, h]
  have old : ∀ {b : Nat} {cs : List AV}, s1.get b = some (.cells false cs) → namess (pN 17 new) cs = true → ((objAt s1 b).rw = true ∨ objAt s1 b = .dead) ∧ (objAt s1 b).names (pN 17 new) = true := fun h hh => by rw [ob h]; exact ⟨.inl rfl, hh⟩
  have kan' := F'.kan (lk := lk) (th := th) h3 h4
  have X' : namess (pN 17 new) (σx'.X to lk (nxt'.ren (kap k10 k13 k14 k15 k16)) xa' xb' xc' xn' (bpx'.ren (kap k10 k13 k14 k15 k16))) = true := namess_ren kN (σx'.X to lk nxt' xa' xb' xc' xn' bpx') (X_lt F'.xs (fun b => Nat.blt b 17) rfl rfl rfl rfl)
  have Y' : namess (pN 17 new) (σy'.Y to lk (bp'.ren (kap k10 k13 k14 k15 k16))) = true := namess_ren kN (σy'.Y to lk bp') (by
    show (bp'.names _ && true) = true
    rw [F'.bp.names]
    rfl)
  have hold' : ∀ b ∈ N12, ((objAt s1 b).rw = true ∨ objAt s1 b = .dead) ∧ (objAt s1 b).names (pN 17 new) = true := by
    intro b hb
    simp only [N12, List.mem_cons, List.not_mem_nil, or_false] at hb
    rcases hb with rfl | rfl | rfl | rfl | rfl | rfl | rfl | rfl | rfl | rfl | rfl | rfl
    · exact old g5 rfl
    · exact old g6 rfl
    · exact old g7 rfl
    · rw [ob g8]; exact ⟨.inl rfl, mapO_names _ _⟩
    · exact old g9 (C_names _ _ _ (LV_names _ _ _ (kN 10 rfl)))
    · exact hold 10 (by simp)
    · exact old g11 X'
    · exact old g12 Y'
    · exact hold 13 (by simp)
    · exact hold 14 (by simp)
    · exact hold 15 (by simp)
    · exact hold 16 (by simp)
  have inN : ∀ b ∈ N12, kap k10 k13 k14 k15 k16 b ∈ N12 ∨ kap k10 k13 k14 k15 k16 b ∈ new := fun b hb => (kin b).imp (fun h => by rw [h]; exact hb) id
  have r11 : kap k10 k13 k14 k15 k16 11 = 11 := kap_lo (by simp)
  have e9 : s1.get 9 = some (AObj.ren (kap k10 k13 k14 k15 k16) (.cells false (mr'.C (LV mr'.ms 10)))) := by
    show s1.get 9 = some (.cells false (mr'.C ((LV mr'.ms 10).ren _)))
    rw [LV_ren]
    exact g9
  obtain ⟨s', π', hs, ha⟩ := At.step (n0 := 17) (nx0 := 17) (new := new) (κ := kap k10 k13 k14 k15 k16) (T' := T0 l0 l1 to lk th i' q') (bs' := HC to lk th (.cells false (mx'.C (.map 8))) (mapO mx'.ms) (.cells false (mr'.C (LV mr'.ms 10))) oL' (.cells false (σx'.X to lk nxt' xa' xb' xc' xn' bpx')) (.cells false (σy'.Y to lk bp')) o13' o14' o15' o16')
    A K hn hnew (fun g hg => kap_lo (by rw [gl3] at hg; simp; omega)) (fun x hx => by
      simp only [FC, List.mem_cons, List.not_mem_nil, or_false] at hx
      rcases hx with rfl | rfl | rfl | rfl | rfl <;> rfl)
    ⟨⟨inN 5 (by simp [N12]), g5⟩, ⟨inN 6 (by simp [N12]), g6⟩, ⟨inN 7 (by simp [N12]), g7⟩, ⟨inN 8 (by simp [N12]), by rw [mapO_ren]; exact g8⟩, ⟨inN 9 (by simp [N12]), e9⟩, ⟨inN 10 (by simp [N12]), by rw [F'.row.free.ren]; exact g10⟩,
      ⟨inN 11 (by simp [N12]), g11⟩, ⟨inN 12 (by simp [N12]), g12⟩, ⟨inN 13 (by simp [N12]), by rw [F'.l13.ren r11]; exact g13⟩, ⟨inN 14 (by simp [N12]), by rw [F'.bp.1.ren]; exact g14⟩, ⟨inN 15 (by simp [N12]), by rw [F'.l15.ren r11]; exact g15⟩, ⟨inN 16 (by simp [N12]), by rw [F'.l16.ren r11]; exact g16⟩, trivial⟩
    (fun b hb c hc hh => kap_inj (big q10) (big q13) (big q14) (big q15) (big q16) nd (N12_lt hb) (N12_lt hc) hh)
    h (T0_names hl0 hl1 to lk th i hq) hold' (fun b hb => (kin b).imp (fun h => by rw [h]; exact hb) id) (T0_names hl0 hl1 to lk th i' hq') (by rw [T0_kap hl0 hl1 (hq := hq')]; exact hts)
  exact ⟨s', π', hs, oL', nxt', xa', xb', xc', xn', bpx', bp', o13', o14', o15', o16', d1', d2', d3', F', ha⟩
end
/-! ### the pieces of the loop: A, B1, R8 -/
theorem aSt : isAggA Tryd.prog 49 = some true := by kernel_rfl
theorem sSt : sizeA Tryd.prog 49 = some 4 := by kernel_rfl
structure RwL (b : Nat) (l : AV) (F : List AV) (ms : MS) : Prop where
  nm : L34 l
  na : junkA = junkOf l ∧ junkable l = true
  len : ∀ s, lenA Tryd.prog s 22 l = some (.int .i64 (Int.ofNat ms.length))
  idx : ∀ i, i < ms.length → indexAddrA Tryd.prog 22 l (.int .i64 (Int.ofNat i)) = some (.ptr b (i * 4))
  row : ∃ r, F = rowsOf wc (ms ++ r)
  pos : ∀ x ∈ ms, 0 ≤ x.1.1 ∧ x.2 < 18446744073709551616
theorem RwL.fz {b : Nat} {l : AV} {F : List AV} {ms : MS} (h : RwL b l F ms) : namess (fun _ => false) F = true := by obtain ⟨r, e⟩ := h.row; rw [e]; exact rows_names _ _
noncomputable def cLp : Code := loopAt Tryd.prog 3 0
noncomputable def cA : Code := sL cLp
noncomputable def cI : Code := bIn (sL (sR cLp))
noncomputable def cB1 : Code := sL cI
noncomputable def cB2 : Code := sL (sR cI)
noncomputable def cB3 : Code := sR (sR cI)
noncomputable def cR8 : Code := sR (sR cLp)
theorem kap_id (b : Nat) : kap 10 13 14 15 16 b = b := by
  rcases kap_cases 10 13 14 15 16 b with u | u | u | u | u | u
  · exact u.1
  all_goals rw [u.2, u.1]
theorem WX_ren {σ : SS} {n13 : Nat} {bpx : AV} {O : Nat → AObj} (h : WX σ n13 bpx O) (π : Nat → Nat) (p13 : π n13 = n13) : bpx.ren π = bpx := by
  unfold WX at h
  split at h
  · rw [h.1]; show AV.ptr (π n13) 0 = _; rw [p13]
  · rcases h with ⟨e, _⟩ | ⟨_, e, _⟩ <;> rw [e]
    · rfl
    · show AV.ptr (π n13) 0 = _; rw [p13]
theorem Bp0.ren {σ : SS} {bp : AV} {o14 : AObj} (h : Bp0 σ bp o14) (π : Nat → Nat) (p : π 14 = 14) : bp.ren π = bp := by
  rcases h.2 with ⟨e, _⟩ | ⟨e, _⟩ <;> rw [e]
  · rfl
  · show AV.ptr (π 14) 0 = _; rw [p]

section
variable {σx σy : SS} {mx mr m : PM} {to : Nat} {lk th : Int} {oL : AObj} {nxt : AV} {xa xb xc xn : Nat} {bpx bp : AV} {o13 o14 o15 o16 d1 d2 d3 : AObj} {F3 F4 : List AV} {s : AS} {π : Nat → Nat} {i : Nat} {l0 l1 : AV} {q : AV × AV × AV} {fs bt : MS}

theorem Facts.olds (F : Facts σx mx σy mr to oL nxt xa xb xc xn bpx bp o13 o14 o15 o16 d1 d2 d3) {s1 : AS} (k10 : s1.get 10 = some oL) (k13 : s1.get 13 = some o13) (k14 : s1.get 14 = some o14) (k15 : s1.get 15 = some o15) (k16 : s1.get 16 = some o16) (new : List Nat) : ∀ b ∈ [10, 13, 14, 15, 16], ((objAt s1 b).rw = true ∨ objAt s1 b = .dead) ∧ (objAt s1 b).names (pN 17 new) = true := by
  have e : ∀ {b : Nat} {o : AObj}, s1.get b = some o → objAt s1 b = o := fun h => by simp [objAt, h]
  intro b hb
  simp only [List.mem_cons, List.not_mem_nil, or_false] at hb
  rcases hb with rfl | rfl | rfl | rfl | rfl
  · rw [e k10]; exact ⟨.inl F.row.free.1, F.row.free.nm _⟩
  · rw [e k13]; exact ⟨.inl F.l13.1, F.l13.nm rfl⟩
  · rw [e k14]; exact ⟨.inl F.bp.1.1, F.bp.1.nm _⟩
  · rw [e k15]; exact ⟨.inl F.l15.1, F.l15.nm rfl⟩
  · rw [e k16]; exact ⟨.inl F.l16.1, F.l16.nm rfl⟩
theorem stepI {Cd : Code} {e : AExit} {ts1 : List AV} {h1 : AH} {n1 : Nat} {i' : Nat} (F : Facts σx mx σy mr to oL nxt xa xb xc xn bpx bp o13 o14 o15 o16 d1 d2 d3) (h3 : namess (fun _ => false) F3 = true) (h4 : namess (fun _ => false) F4 = true) (A : At Tryd.prog (HC to lk th (.cells false (mx.C (.map 8))) (mapO mx.ms) (.cells false (mr.C (LV mr.ms 10))) oL (.cells false (σx.X to lk nxt xa xb xc xn bpx)) (.cells false (σy.Y to lk bp)) o13 o14 o15 o16) (FC F3 F4) s π)
    (h : Sound Tryd.prog (.code Cd (T0 l0 l1 to lk th i q) (canF (HC to lk th (.cells false (mx.C (.map 8))) (mapO mx.ms) (.cells false (mr.C (LV mr.ms 10))) oL (.cells false (σx.X to lk nxt xa xb xc xn bpx)) (.cells false (σy.Y to lk bp)) o13 o14 o15 o16) (FC F3 F4) 17 17)) ⟨e, ts1, ⟨h1, n1⟩⟩) (hl0 : L34 l0) (hl1 : L34 l1) (hq : Cl q) (hts : seesT (fun b => b) (fun _ => true) (T0 l0 l1 to lk th i' q) ts1) (hg : h1.bs = (HC to lk th (.cells false (mx.C (.map 8))) (mapO mx.ms) (.cells false (mr.C (LV mr.ms 10))) oL (.cells false (σx.X to lk nxt xa xb xc xn bpx)) (.cells false (σy.Y to lk bp)) o13 o14 o15 o16) ++ frz (FC F3 F4)) :
    ∃ s' π', Sound Tryd.prog (.code Cd (rens π (T0 l0 l1 to lk th i q)) s) ⟨e, rens π' (T0 l0 l1 to lk th i' q), s'⟩ ∧ InvG σx mx σy mr to lk th F3 F4 s' π' := by
  obtain ⟨bs, l, ec, wr⟩ := h1
  have hg : bs = _ := hg
  subst hg
  have k : ∀ {b : Nat}, kap 10 13 14 15 16 b = b := fun {b} => kap_id b
  exact stepG F h3 h4 A h hl0 hl1 hq hq hts [] List.nodup_nil 10 13 14 15 16 (.inl rfl) (.inl rfl) (.inl rfl) (.inl rfl) (.inl rfl) (by decide) (fun b hb => by cases hb) (F.olds rfl rfl rfl rfl rfl []) F rfl rfl rfl rfl rfl rfl
    (by rw [NX_ren F.xs.nx _ k k k, WX_ren F.xs.wx _ k]; rfl) (by rw [F.bp.ren _ k]; rfl) rfl rfl rfl rfl
theorem at_go (F : Facts σx mx σy mr to oL nxt xa xb xc xn bpx bp o13 o14 o15 o16 d1 d2 d3) (h3 : namess (fun _ => false) F3 = true) (h4 : namess (fun _ => false) F4 = true) (A : At Tryd.prog (HC to lk th (.cells false (mx.C (.map 8))) (mapO mx.ms) (.cells false (mr.C (LV mr.ms 10))) oL (.cells false (σx.X to lk nxt xa xb xc xn bpx)) (.cells false (σy.Y to lk bp)) o13 o14 o15 o16) (FC F3 F4) s π) (hl0 : L34 l0) (hl1 : L34 l1) (hq : Cl q) (hi : i < 500) (hy : σy.ln ≠ 0) : ∃ s' π', Sound Tryd.prog (.code cA (rens π (T0 l0 l1 to lk th i q)) s) ⟨.normal, rens π' (T0 l0 l1 to lk th i q), s'⟩ ∧ InvG σx mx σy mr to lk th F3 F4 s' π' := by
  have q1 : decide (Int.ofNat i < 500) = true := decide_eq_true (by simp only [Int.ofNat_eq_natCast]; omega)
  have q2 : decide (Int.ofNat σy.ln > 0) = true := decide_eq_true (by simp only [Int.ofNat_eq_natCast]; omega)
  exact stepI F h3 h4 A (runX_sound mixed none_sound (la_go l0 l1 to i 0 0 lk th 0 0 0 q.1 q.2.1 q.2.2 (.cells false (mx.C (.map 8))) .dead (mapO mx.ms) .dead (.cells false (mr.C (LV mr.ms 10))) .dead oL .dead (.cells false (σx.X to lk nxt xa xb xc xn bpx)) .dead .dead o13 .dead o14 .dead o15 .dead o16 .dead .dead .dead .dead F3 F4 σy.ln σy.en σy.wt (.int .u8 (Int.ofNat to)) (.int .i64 lk) (.int .u64 (Int.ofNat σy.w)) (.int .u8 (Int.ofNat σy.a)) (.int .u8 (Int.ofNat σy.b)) (.int .u8 (Int.ofNat σy.c)) (.int .u64 (Int.ofNat σy.n)) bp) ⟨by rw [q1]; rfl, by rw [q2]; rfl, trivial⟩) hl0 hl1 hq (by unfold T0 TT; repeat (first | exact rfl | refine ⟨_, _, rfl, ?_, ?_⟩ | exact see_same _ | exact .inl ⟨rfl, rfl⟩)) rfl
theorem at_end (F : Facts σx mx σy mr to oL nxt xa xb xc xn bpx bp o13 o14 o15 o16 d1 d2 d3) (h3 : namess (fun _ => false) F3 = true) (h4 : namess (fun _ => false) F4 = true) (A : At Tryd.prog (HC to lk th (.cells false (mx.C (.map 8))) (mapO mx.ms) (.cells false (mr.C (LV mr.ms 10))) oL (.cells false (σx.X to lk nxt xa xb xc xn bpx)) (.cells false (σy.Y to lk bp)) o13 o14 o15 o16) (FC F3 F4) s π) (hl0 : L34 l0) (hl1 : L34 l1) (hq : Cl q) (hi : i < 500) (hy : σy.ln = 0) : ∃ s' π', Sound Tryd.prog (.code cA (rens π (T0 l0 l1 to lk th i q)) s) ⟨.exit 0, rens π' (T0 l0 l1 to lk th i q), s'⟩ ∧ InvG σx mx σy mr to lk th F3 F4 s' π' := by
  have q1 : decide (Int.ofNat i < 500) = true := decide_eq_true (by simp only [Int.ofNat_eq_natCast]; omega)
  have q2 : decide (Int.ofNat σy.ln > 0) = false := decide_eq_false (by simp only [Int.ofNat_eq_natCast]; omega)
  exact stepI F h3 h4 A (runX_sound mixed none_sound (la_end l0 l1 to i 0 0 lk th 0 0 0 q.1 q.2.1 q.2.2 (.cells false (mx.C (.map 8))) .dead (mapO mx.ms) .dead (.cells false (mr.C (LV mr.ms 10))) .dead oL .dead (.cells false (σx.X to lk nxt xa xb xc xn bpx)) .dead .dead o13 .dead o14 .dead o15 .dead o16 .dead .dead .dead .dead F3 F4 σy.ln σy.en σy.wt (.int .u8 (Int.ofNat to)) (.int .i64 lk) (.int .u64 (Int.ofNat σy.w)) (.int .u8 (Int.ofNat σy.a)) (.int .u8 (Int.ofNat σy.b)) (.int .u8 (Int.ofNat σy.c)) (.int .u64 (Int.ofNat σy.n)) bp) ⟨by rw [q1]; rfl, by rw [q2]; rfl, trivial⟩) hl0 hl1 hq (by unfold T0 TT; repeat (first | exact rfl | refine ⟨_, _, rfl, ?_, ?_⟩ | exact see_same _ | exact .inl ⟨rfl, rfl⟩)) rfl
theorem at_r8 (F : Facts σx mx σy mr to oL nxt xa xb xc xn bpx bp o13 o14 o15 o16 d1 d2 d3) (h3 : namess (fun _ => false) F3 = true) (h4 : namess (fun _ => false) F4 = true) (A : At Tryd.prog (HC to lk th (.cells false (mx.C (.map 8))) (mapO mx.ms) (.cells false (mr.C (LV mr.ms 10))) oL (.cells false (σx.X to lk nxt xa xb xc xn bpx)) (.cells false (σy.Y to lk bp)) o13 o14 o15 o16) (FC F3 F4) s π) (hl0 : L34 l0) (hl1 : L34 l1) (hq : Cl q) (hi : i < 500) : ∃ s' π', Sound Tryd.prog (.code cR8 (rens π (T0 l0 l1 to lk th i q)) s) ⟨.normal, rens π' (T0 l0 l1 to lk th (i + 1) q), s'⟩ ∧ InvG σx mx σy mr to lk th F3 F4 s' π' := by
  exact stepI F h3 h4 A (runX_sound mixed none_sound (lr8 l0 l1 to i 0 0 lk th 0 0 0 q.1 q.2.1 q.2.2 (.cells false (mx.C (.map 8))) .dead (mapO mx.ms) .dead (.cells false (mr.C (LV mr.ms 10))) .dead oL .dead (.cells false (σx.X to lk nxt xa xb xc xn bpx)) .dead .dead o13 .dead o14 .dead o15 .dead o16 .dead .dead .dead .dead F3 F4 σy.ln σy.en σy.wt (.int .u8 (Int.ofNat to)) (.int .i64 lk) (.int .u64 (Int.ofNat σy.w)) (.int .u8 (Int.ofNat σy.a)) (.int .u8 (Int.ofNat σy.b)) (.int .u8 (Int.ofNat σy.c)) (.int .u64 (Int.ofNat σy.n)) bp) ⟨by show some (AV.int .i64 (IntKind.i64.wrap (Int.ofNat (i + 1)))) = _; rw [i64_wrap (by simp only [Int.ofNat_eq_natCast]; omega) (by simp only [Int.ofNat_eq_natCast]; omega)], trivial⟩) hl0 hl1 hq (by unfold T0 TT; repeat (first | exact rfl | refine ⟨_, _, rfl, ?_, ?_⟩ | exact see_same _ | exact .inl ⟨rfl, rfl⟩)) rfl
theorem at_b1n (F : Facts σx mx σy mr to oL nxt xa xb xc xn bpx bp o13 o14 o15 o16 d1 d2 d3) (h3 : namess (fun _ => false) F3 = true) (h4 : namess (fun _ => false) F4 = true) (A : At Tryd.prog (HC to lk th (.cells false (mx.C (.map 8))) (mapO mx.ms) (.cells false (mr.C (LV mr.ms 10))) oL (.cells false (σx.X to lk nxt xa xb xc xn bpx)) (.cells false (σy.Y to lk bp)) o13 o14 o15 o16) (FC F3 F4) s π) (hl0 : L34 l0) (hl1 : L34 l1) (hq : Cl q) (W : RwL 4 l1 F4 bt) (hi : ¬ i < bt.length) : ∃ s' π', Sound Tryd.prog (.code cB1 (rens π (T0 l0 l1 to lk th i q)) s) ⟨.normal, rens π' (T0 l0 l1 to lk th i q), s'⟩ ∧ InvG σx mx σy mr to lk th F3 F4 s' π' := by
  have q2 : decide (Int.ofNat i < Int.ofNat bt.length) = false := decide_eq_false (by simp only [Int.ofNat_eq_natCast]; omega)
  exact stepI F h3 h4 A (runX_sound mixed none_sound (lb1_n l0 l1 to i bt.length 0 lk th 0 0 0 q.1 q.2.1 q.2.2 (.cells false (mx.C (.map 8))) .dead (mapO mx.ms) .dead (.cells false (mr.C (LV mr.ms 10))) .dead oL .dead (.cells false (σx.X to lk nxt xa xb xc xn bpx)) .dead .dead o13 .dead o14 .dead o15 .dead o16 .dead .dead .dead .dead F3 F4 σy.ln σy.en σy.wt (.int .u8 (Int.ofNat to)) (.int .i64 lk) (.int .u64 (Int.ofNat σy.w)) (.int .u8 (Int.ofNat σy.a)) (.int .u8 (Int.ofNat σy.b)) (.int .u8 (Int.ofNat σy.c)) (.int .u64 (Int.ofNat σy.n)) bp) ⟨W.len _, by rw [q2]; rfl, trivial⟩) hl0 hl1 hq (by unfold T0 TT; repeat (first | exact rfl | refine ⟨_, _, rfl, ?_, ?_⟩ | exact see_same _ | exact .inl W.na | exact .inl ⟨rfl, rfl⟩)) rfl
end
/-! ### the pieces of the loop: a store, and a step of the document's Switch -/
section
variable {σx σy : SS} {mx mr m : PM} {to : Nat} {lk th : Int} {oL : AObj} {nxt : AV} {xa xb xc xn : Nat} {bpx bp : AV} {o13 o14 o15 o16 d1 d2 d3 : AObj} {F3 F4 : List AV} {s : AS} {π : Nat → Nat} {i : Nat} {l0 l1 : AV} {q : AV × AV × AV} {fs bt : MS}

theorem at_b1s (F : Facts σx m σy m to oL nxt xa xb xc xn bpx bp o13 o14 o15 o16 d1 d2 d3) (h3 : namess (fun _ => false) F3 = true) (h4 : namess (fun _ => false) F4 = true) (A : At Tryd.prog (HC to lk th (.cells false (m.C (.map 8))) (mapO m.ms) (.cells false (m.C (LV m.ms 10))) oL (.cells false (σx.X to lk nxt xa xb xc xn bpx)) (.cells false (σy.Y to lk bp)) o13 o14 o15 o16) (FC F3 F4) s π) (hl0 : L34 l0) (hl1 : L34 l1) (hq : Cl q) (W : RwL 4 l1 F4 bt) {z : A3 × Nat} (hz : bt[i]? = some z) (hl : m.ms.length < 16776000) : ∃ s' π', Sound Tryd.prog (.code cB1 (rens π (T0 l0 l1 to lk th i q)) s) ⟨.normal, rens π' (T0 l0 l1 to lk th i (.agg [junkA, junkA], .agg [junkA, junkA, junkA, junkA], q.2.2)), s'⟩ ∧ InvG σx (m.store z.1 z.2) σy (m.store z.1 z.2) to lk th F3 F4 s' π' := by
  have hi : i < bt.length := (List.getElem?_eq_some_iff.1 hz).1
  have hp := W.pos z (List.mem_of_getElem? hz)
  obtain ⟨rw_, hrw⟩ := W.row
  have hz' : (bt ++ rw_)[i]? = some z := by rw [List.getElem?_append_left hi]; exact hz
  obtain ⟨lv, oL', pA, hr, hS⟩ := S_at (h := ⟨(HC to lk th (.cells false (m.C (.map 8))) (mapO m.ms) (.cells false (m.C (LV m.ms 10))) oL (.cells false (σx.X to lk nxt xa xb xc xn bpx)) (.cells false (σy.Y to lk bp)) o13 o14 o15 o16) ++ frz (FC F3 F4), 17, none, []⟩) (m := m) rfl rfl rfl rfl F.row hl z.1 hp.1 z.2
  have q2 : decide (Int.ofNat i < Int.ofNat bt.length) = true := decide_eq_true (by simp only [Int.ofNat_eq_natCast]; omega)
  have hx := runX_sound mixed none_sound (lb1_s l0 l1 to i bt.length z.2 lk th z.1.1 z.1.2.1 z.1.2.2 q.1 q.2.1 q.2.2 (.cells false (m.C (.map 8))) (.cells false ((m.store z.1 z.2).C (.map 8))) (mapO m.ms) (mapO (m.store z.1 z.2).ms) (.cells false (m.C (LV m.ms 10))) (.cells false ((m.store z.1 z.2).C lv)) oL oL' (.cells false (σx.X to lk nxt xa xb xc xn bpx)) .dead .dead o13 .dead o14 .dead o15 .dead o16 .dead pA .dead .dead F3 F4 σy.ln σy.en σy.wt (.int .u8 (Int.ofNat to)) (.int .i64 lk) (.int .u64 (Int.ofNat σy.w)) (.int .u8 (Int.ofNat σy.a)) (.int .u8 (Int.ofNat σy.b)) (.int .u8 (Int.ofNat σy.c)) (.int .u64 (Int.ofNat σy.n)) bp) ⟨W.len _, by rw [q2]; rfl, W.idx i hi, ld_row (f := wc) (n := 4) (fun _ => rfl) aSt sSt (by rw [hrw]; rfl) (hz' : (bt ++ rw_)[i]? = some z), hS, trivial⟩
  have hpA := hr.o2
  have hnew : ∀ (h1 : AS), h1.get 17 = some pA → ∀ b ∈ [17], 17 ≤ b ∧ (objAt h1 b).rw = true ∧ (objAt h1 b).names (pN 17 [17]) = true := fun h1 e b hb => by
    rcases List.mem_singleton.1 hb with rfl
    rw [show objAt h1 17 = pA by simp [objAt, e]]
    exact ⟨Nat.le_refl _, hpA.1, hpA.nm _⟩
  have hold : ∀ (s1 : AS), s1.get 10 = some oL' → s1.get 13 = some o13 → s1.get 14 = some o14 → s1.get 15 = some o15 → s1.get 16 = some o16 → ∀ b ∈ [10, 13, 14, 15, 16], ((objAt s1 b).rw = true ∨ objAt s1 b = .dead) ∧ (objAt s1 b).names (pN 17 [17]) = true := fun s1 k10 k13 k14 k15 k16 b hb => by
    have e : ∀ {b : Nat} {o : AObj}, s1.get b = some o → objAt s1 b = o := fun h => by simp [objAt, h]
    simp only [List.mem_cons, List.not_mem_nil, or_false] at hb
    rcases hb with rfl | rfl | rfl | rfl | rfl
    · rw [e k10]; exact ⟨hr.o1.1, hr.o1.2 _⟩
    · rw [e k13]; exact ⟨.inl F.l13.1, F.l13.nm rfl⟩
    · rw [e k14]; exact ⟨.inl F.bp.1.1, F.bp.1.nm _⟩
    · rw [e k15]; exact ⟨.inl F.l15.1, F.l15.nm rfl⟩
    · rw [e k16]; exact ⟨.inl F.l16.1, F.l16.nm rfl⟩
  rcases hr with ⟨rfl, hro, hf⟩ | ⟨hne, rfl, hd, hro⟩
  · exact stepG F h3 h4 A hx hl0 hl1 hq ⟨rfl, rfl, hq.2.2⟩ (by unfold T0 TT; repeat (first | exact rfl | refine ⟨_, _, rfl, ?_, ?_⟩ | exact see_same _ | exact .inl W.na | exact .inl ⟨rfl, rfl⟩)) [17] (by decide) 10 13 14 15 16 (.inl rfl) (.inl rfl) (.inl rfl) (.inl rfl) (.inl rfl) (by decide) (hnew _ rfl) (hold _ rfl rfl rfl rfl rfl) ⟨hro, F.l13, F.l15, F.l16, F.xs, F.bp⟩ rfl rfl rfl rfl rfl rfl
      (by rw [NX_ren F.xs.nx _ rfl rfl rfl, WX_ren F.xs.wx _ rfl]; rfl) (by rw [F.bp.ren _ rfl]; rfl) rfl rfl rfl rfl
  · exact stepG F h3 h4 A hx hl0 hl1 hq ⟨rfl, rfl, hq.2.2⟩ (by unfold T0 TT; repeat (first | exact rfl | refine ⟨_, _, rfl, ?_, ?_⟩ | exact see_same _ | exact .inl W.na | exact .inl ⟨rfl, rfl⟩)) [17] (by decide) 17 13 14 15 16 (.inr (by simp)) (.inl rfl) (.inl rfl) (.inl rfl) (.inl rfl) (by decide) (hnew _ rfl) (hold _ rfl rfl rfl rfl rfl) ⟨hro, F.l13, F.l15, F.l16, F.xs, F.bp⟩ rfl rfl rfl rfl rfl rfl
      (by rw [NX_ren F.xs.nx _ rfl rfl rfl, WX_ren F.xs.wx _ rfl]; rfl) (by rw [F.bp.ren _ rfl]; rfl) rfl rfl rfl rfl
theorem at_b2 (F : Facts σx mx σy mr to oL nxt xa xb xc xn bpx bp o13 o14 o15 o16 d1 d2 d3) (h3 : namess (fun _ => false) F3 = true) (h4 : namess (fun _ => false) F4 = true) (A : At Tryd.prog (HC to lk th (.cells false (mx.C (.map 8))) (mapO mx.ms) (.cells false (mr.C (LV mr.ms 10))) oL (.cells false (σx.X to lk nxt xa xb xc xn bpx)) (.cells false (σy.Y to lk bp)) o13 o14 o15 o16) (FC F3 F4) s π) (hl0 : L34 l0) (hl1 : L34 l1) (hq : Cl q) (hO : σy.Ok to lk) (hl : mr.ms.length < 16776000) (hmv : ∀ a, getW mr.ms a < 18446744073709551616) : ∃ s' π', Sound Tryd.prog (.code cB2 (rens π (T0 l0 l1 to lk th i q)) s) ⟨.normal, rens π' (T0 l0 l1 to lk th i q), s'⟩ ∧ InvG σx mx (σy.step to lk mr).1 (σy.step to lk mr).2 to lk th F3 F4 s' π' := by
  obtain ⟨lv, oL', pA, bp', o14', pC, hr, hb, hS⟩ := Y_all (h := ⟨(HC to lk th (.cells false (mx.C (.map 8))) (mapO mx.ms) (.cells false (mr.C (LV mr.ms 10))) oL (.cells false (σx.X to lk nxt xa xb xc xn bpx)) (.cells false (σy.Y to lk bp)) o13 o14 o15 o16) ++ frz (FC F3 F4), 17, none, []⟩) (m := mr) hO hl rfl rfl rfl F.row rfl F.bp hmv
  have hx := runX_sound mixed none_sound (lb2 l0 l1 to i 0 0 lk th 0 0 0 q.1 q.2.1 q.2.2 (.cells false (mx.C (.map 8))) .dead (mapO mx.ms) .dead (.cells false (mr.C (LV mr.ms 10))) (.cells false ((σy.step to lk mr).2.C lv)) oL oL' (.cells false (σx.X to lk nxt xa xb xc xn bpx)) .dead (.cells false ((σy.step to lk mr).1.Y to lk bp')) o13 .dead o14 o14' o15 .dead o16 .dead pA pC .dead F3 F4 σy.ln σy.en σy.wt (.int .u8 (Int.ofNat to)) (.int .i64 lk) (.int .u64 (Int.ofNat σy.w)) (.int .u8 (Int.ofNat σy.a)) (.int .u8 (Int.ofNat σy.b)) (.int .u8 (Int.ofNat σy.c)) (.int .u64 (Int.ofNat σy.n)) bp) ⟨hS, trivial⟩
  have hpA := hr.o2
  obtain ⟨f14, fpC, hb⟩ := hb
  have hnew : ∀ (h1 : AS), h1.get 17 = some pA → h1.get 18 = some pC → ∀ b ∈ [17, 18], 17 ≤ b ∧ (objAt h1 b).rw = true ∧ (objAt h1 b).names (pN 17 [17, 18]) = true := fun h1 e e2 b hb => by
    simp only [List.mem_cons, List.not_mem_nil, or_false] at hb
    rcases hb with rfl | rfl
    · rw [show objAt h1 17 = pA by simp [objAt, e]]
      exact ⟨by omega, hpA.1, hpA.nm _⟩
    · rw [show objAt h1 18 = pC by simp [objAt, e2]]
      exact ⟨by omega, fpC.1, fpC.nm _⟩
  have hold : ∀ (s1 : AS), s1.get 10 = some oL' → s1.get 13 = some o13 → s1.get 14 = some o14' → s1.get 15 = some o15 → s1.get 16 = some o16 → ∀ b ∈ [10, 13, 14, 15, 16], ((objAt s1 b).rw = true ∨ objAt s1 b = .dead) ∧ (objAt s1 b).names (pN 17 [17, 18]) = true := fun s1 k10 k13 k14 k15 k16 b hb => by
    have e : ∀ {b : Nat} {o : AObj}, s1.get b = some o → objAt s1 b = o := fun h => by simp [objAt, h]
    simp only [List.mem_cons, List.not_mem_nil, or_false] at hb
    rcases hb with rfl | rfl | rfl | rfl | rfl
    · rw [e k10]; exact ⟨hr.o1.1, hr.o1.2 _⟩
    · rw [e k13]; exact ⟨.inl F.l13.1, F.l13.nm rfl⟩
    · rw [e k14]; exact ⟨.inl f14.1, f14.nm _⟩
    · rw [e k15]; exact ⟨.inl F.l15.1, F.l15.nm rfl⟩
    · rw [e k16]; exact ⟨.inl F.l16.1, F.l16.nm rfl⟩
  obtain ⟨k14, bp0, oB, hk, hg, hren, hB0⟩ : ∃ k14 bp0 oB, (k14 = 14 ∧ oB = o14' ∨ k14 = 18 ∧ oB = pC) ∧ (oB = o14' ∨ oB = pC) ∧ (∀ π : Nat → Nat, π 14 = k14 → bp0.ren π = bp') ∧ Bp0 (σy.step to lk mr).1 bp0 oB := by
    rcases hb with ⟨rfl, hb⟩ | ⟨rfl, hb⟩ | ⟨rfl, hb⟩
    · exact ⟨14, .nilPtr, o14', .inl ⟨rfl, rfl⟩, .inl rfl, fun _ _ => rfl, f14, .inl ⟨rfl, hb⟩⟩
    · exact ⟨14, .ptr 14 0, o14', .inl ⟨rfl, rfl⟩, .inl rfl, fun π h => by show AV.ptr (π 14) 0 = _; rw [h], f14, .inr ⟨rfl, hb⟩⟩
    · exact ⟨18, .ptr 14 0, pC, .inr ⟨rfl, rfl⟩, .inr rfl, fun π h => by show AV.ptr (π 14) 0 = _; rw [h], fpC, .inr ⟨rfl, hb⟩⟩
  rcases hr with ⟨rfl, hro, hf⟩ | ⟨hne, rfl, hd, hro⟩ <;> rcases hk with ⟨rfl, rfl⟩ | ⟨rfl, rfl⟩
  · exact stepG F h3 h4 A hx hl0 hl1 hq hq (by unfold T0 TT; repeat (first | exact rfl | refine ⟨_, _, rfl, ?_, ?_⟩ | exact see_same _ | exact .inl ⟨rfl, rfl⟩)) [17, 18] (by decide) 10 13 14 15 16 (.inl rfl) (.inl rfl) (.inl rfl) (.inl rfl) (.inl rfl) (by decide) (hnew _ rfl rfl) (hold _ rfl rfl rfl rfl rfl) ⟨hro, F.l13, F.l15, F.l16, F.xs, hB0⟩ rfl rfl rfl rfl rfl rfl
      (by rw [NX_ren F.xs.nx _ rfl rfl rfl, WX_ren F.xs.wx _ rfl]; rfl) (by rw [hren _ rfl]; rfl) rfl rfl rfl rfl
  · exact stepG F h3 h4 A hx hl0 hl1 hq hq (by unfold T0 TT; repeat (first | exact rfl | refine ⟨_, _, rfl, ?_, ?_⟩ | exact see_same _ | exact .inl ⟨rfl, rfl⟩)) [17, 18] (by decide) 10 13 18 15 16 (.inl rfl) (.inl rfl) (.inr (by simp)) (.inl rfl) (.inl rfl) (by decide) (hnew _ rfl rfl) (hold _ rfl rfl rfl rfl rfl) ⟨hro, F.l13, F.l15, F.l16, F.xs, hB0⟩ rfl rfl rfl rfl rfl rfl
      (by rw [NX_ren F.xs.nx _ rfl rfl rfl, WX_ren F.xs.wx _ rfl]; rfl) (by rw [hren _ rfl]; rfl) rfl rfl rfl rfl
  · exact stepG F h3 h4 A hx hl0 hl1 hq hq (by unfold T0 TT; repeat (first | exact rfl | refine ⟨_, _, rfl, ?_, ?_⟩ | exact see_same _ | exact .inl ⟨rfl, rfl⟩)) [17, 18] (by decide) 17 13 14 15 16 (.inr (by simp)) (.inl rfl) (.inl rfl) (.inl rfl) (.inl rfl) (by decide) (hnew _ rfl rfl) (hold _ rfl rfl rfl rfl rfl) ⟨hro, F.l13, F.l15, F.l16, F.xs, hB0⟩ rfl rfl rfl rfl rfl rfl
      (by rw [NX_ren F.xs.nx _ rfl rfl rfl, WX_ren F.xs.wx _ rfl]; rfl) (by rw [hren _ rfl]; rfl) rfl rfl rfl rfl
  · exact stepG F h3 h4 A hx hl0 hl1 hq hq (by unfold T0 TT; repeat (first | exact rfl | refine ⟨_, _, rfl, ?_, ?_⟩ | exact see_same _ | exact .inl ⟨rfl, rfl⟩)) [17, 18] (by decide) 17 13 18 15 16 (.inr (by simp)) (.inl rfl) (.inr (by simp)) (.inl rfl) (.inl rfl) (by decide) (hnew _ rfl rfl) (hold _ rfl rfl rfl rfl rfl) ⟨hro, F.l13, F.l15, F.l16, F.xs, hB0⟩ rfl rfl rfl rfl rfl rfl
      (by rw [NX_ren F.xs.nx _ rfl rfl rfl, WX_ren F.xs.wx _ rfl]; rfl) (by rw [hren _ rfl]; rfl) rfl rfl rfl rfl
end
/-! ### the pieces of the loop: a step of the program's Switch -/
theorem O6_13 (a b c d e f : AObj) : O6 a b c d e f 13 = a := rfl
theorem O6_15 (a b c d e f : AObj) : O6 a b c d e f 15 = b := rfl
theorem O6_16 (a b c d e f : AObj) : O6 a b c d e f 16 = c := rfl
theorem XS.canon {σ : SS} {to n13 n15 n16 : Nat} {nxt : AV} {xa xb xc xn : Nat} {bpx : AV} {O : Nat → AObj} (h : XS σ to n13 n15 n16 nxt xa xb xc xn bpx O) :
    ∃ nxt0 bpx0, XS σ to 13 15 16 nxt0 xa xb xc xn bpx0 (O6 (O n13) (O n15) (O n16) .dead .dead .dead) ∧ ∀ π : Nat → Nat, π 11 = 11 → π 13 = n13 → π 15 = n15 → π 16 = n16 → nxt0.ren π = nxt ∧ bpx0.ren π = bpx := by
  obtain ⟨hn, hw, hp⟩ := h
  have h1 : ∃ nxt0, NX σ to 15 16 nxt0 (O6 (O n13) (O n15) (O n16) .dead .dead .dead) ∧ ∀ π : Nat → Nat, π 11 = 11 → π 15 = n15 → π 16 = n16 → nxt0.ren π = nxt := by
    obtain ⟨ln, en, w, wt, a, b, c, n, br⟩ := σ
    unfold NX at hn ⊢
    simp only [O6_15, O6_16] at hn ⊢
    split at hn
    · exact ⟨_, rfl, fun π _ _ _ => by rw [hn]; rfl⟩
    · exact ⟨_, rfl, fun π e _ _ => by rw [hn]; show AV.func _ [.ptr (π 11) 0] [] = _; rw [e]⟩
    · exact ⟨_, ⟨rfl, hn.2⟩, fun π _ e f => by rw [hn.1]; show AV.func _ [] [.ptr (π 15) 0, .ptr (π 16) 0] = _; rw [e, f]⟩
    · exact ⟨_, ⟨rfl, hn.2⟩, fun π _ e f => by rw [hn.1]; show AV.func _ [] [.ptr (π 15) 0, .ptr (π 16) 0] = _; rw [e, f]⟩
    · exact ⟨_, ⟨rfl, hn.2⟩, fun π _ e f => by rw [hn.1]; show AV.func _ [] [.ptr (π 15) 0] = _; rw [e]⟩
    · exact ⟨_, rfl, fun π e _ _ => by rw [hn]; show AV.func _ [.ptr (π 11) 0] [] = _; rw [e]⟩
    · exact ⟨_, ⟨rfl, hn.2⟩, fun π _ e f => by rw [hn.1]; show AV.func _ [] [.ptr (π 15) 0, .ptr (π 16) 0] = _; rw [e, f]⟩
    · exact ⟨_, ⟨rfl, hn.2⟩, fun π _ e f => by rw [hn.1]; show AV.func _ [] [.ptr (π 15) 0] = _; rw [e]⟩
    · exact ⟨_, rfl, fun π e _ _ => by rw [hn]; show AV.func _ [.ptr (π 11) 0] [] = _; rw [e]⟩
  have h2 : ∃ bpx0, WX σ 13 bpx0 (O6 (O n13) (O n15) (O n16) .dead .dead .dead) ∧ ∀ π : Nat → Nat, π 13 = n13 → bpx0.ren π = bpx := by
    unfold WX at hw ⊢
    simp only [O6_13]
    split at hw
    · rename_i hl
      simp only [if_pos hl]
      exact ⟨_, ⟨rfl, hw.2⟩, fun π e => by rw [hw.1]; show AV.ptr (π 13) 0 = _; rw [e]⟩
    · rename_i hl
      simp only [if_neg hl]
      rcases hw with ⟨e1, e2⟩ | ⟨e0, e1, e2⟩
      · exact ⟨_, .inl ⟨rfl, e2⟩, fun π _ => by rw [e1]; rfl⟩
      · exact ⟨_, .inr ⟨e0, rfl, e2⟩, fun π e => by rw [e1]; show AV.ptr (π 13) 0 = _; rw [e]⟩
  obtain ⟨x0, a1, a2⟩ := h1
  obtain ⟨b0, c1, c2⟩ := h2
  exact ⟨x0, b0, ⟨a1, c1, hp⟩, fun π e1 e2 e3 e4 => ⟨a2 π e1 e3 e4, c2 π e2⟩⟩
section
variable {σx σy : SS} {mx mr : PM} {to : Nat} {lk th : Int} {oL : AObj} {nxt : AV} {xa xb xc xn : Nat} {bpx bp : AV} {o13 o14 o15 o16 d1 d2 d3 : AObj} {F3 F4 : List AV} {s : AS} {π : Nat → Nat} {i : Nat} {l0 l1 : AV} {q : AV × AV × AV} {fs bt : MS}

theorem at_b3 (F : Facts σx mx σy mr to oL nxt xa xb xc xn bpx bp o13 o14 o15 o16 d1 d2 d3) (h3 : namess (fun _ => false) F3 = true) (h4 : namess (fun _ => false) F4 = true) (A : At Tryd.prog (HC to lk th (.cells false (mx.C (.map 8))) (mapO mx.ms) (.cells false (mr.C (LV mr.ms 10))) oL (.cells false (σx.X to lk nxt xa xb xc xn bpx)) (.cells false (σy.Y to lk bp)) o13 o14 o15 o16) (FC F3 F4) s π) (hl0 : L34 l0) (hl1 : L34 l1) (hq : Cl q) (hO : σx.Ok to lk) (hmv : ∀ a, getW mx.ms a < 18446744073709551616) (hstep : σx.step to lk mx = (σy, mr)) (hen : σy.ln ≠ 0 → σy.en = 4) : ∃ s' π', Sound Tryd.prog (.code cB3 (rens π (T0 l0 l1 to lk th i q)) s) ⟨.normal, rens π' (T0 l0 l1 to lk th i (q.1, q.2.1, .agg [junkA, junkA])), s'⟩ ∧ InvG σy mr σy mr to lk th F3 F4 s' π' := by
  obtain ⟨nxt', xa', xb', xc', xn', bpx', n13, n15, n16, o13', o15', o16', p1, p2, p3, q13, q15, q16, hne, m13, m15, m16, mp1, mp2, mp3, hX, hS⟩ := X_all (h := (⟨(HC to lk th (.cells false (mx.C (.map 8))) (mapO mx.ms) (.cells false (mr.C (LV mr.ms 10))) oL (.cells false (σx.X to lk nxt xa xb xc xn bpx)) (.cells false (σy.Y to lk bp)) o13 o14 o15 o16) ++ frz (FC F3 F4), 17, none, []⟩ : AH)) (m := mx) hO rfl rfl rfl rfl rfl rfl (fun x hx => by
    simp only [GF, List.mem_cons, List.not_mem_nil, or_false] at hx
    rcases hx with rfl | rfl | rfl <;> exact ⟨true, rfl⟩) F.l13 F.l15 F.l16 F.xs hmv
  rw [hstep] at hX hS
  obtain ⟨nxt0, bpx0, hX0, hren⟩ := hX.canon
  have l13 : n13 < 32 := by omega
  have l15 : n15 < 32 := by omega
  have l16 : n16 < 32 := by omega
  have gg : ∀ (s1 : AS), s1.get 13 = some o13' → s1.get 15 = some o15' → s1.get 16 = some o16' → s1.get 17 = some p1 → s1.get 18 = some p2 → s1.get 19 = some p3 → s1.get n13 = some (O6 o13' o15' o16' p1 p2 p3 n13) ∧ s1.get n15 = some (O6 o13' o15' o16' p1 p2 p3 n15) ∧ s1.get n16 = some (O6 o13' o15' o16' p1 p2 p3 n16) := fun s1 e13 e15 e16 e17 e18 e19 => by
    refine ⟨?_, ?_, ?_⟩
    · rcases q13 with rfl | rfl <;> assumption
    · rcases q15 with rfl | rfl | rfl <;> assumption
    · rcases q16 with rfl | rfl <;> assumption
  have g13 := fun s1 a b c d e f => (gg s1 a b c d e f).1
  have g15 := fun s1 a b c d e f => (gg s1 a b c d e f).2.1
  have g16 := fun s1 a b c d e f => (gg s1 a b c d e f).2.2
  have lx : ∀ n, Lx (O6 o13' o15' o16' p1 p2 p3 n) := fun n => by
    unfold O6
    repeat' split
    all_goals assumption
  have ob : ∀ {s1 : AS} {b : Nat} {o : AObj}, s1.get b = some o → objAt s1 b = o := fun h => by simp [objAt, h]
  have hnew : ∀ (h1 : AS), h1.get 17 = some p1 → h1.get 18 = some p2 → h1.get 19 = some p3 → ∀ b ∈ [17, 18, 19], 17 ≤ b ∧ (objAt h1 b).rw = true ∧ (objAt h1 b).names (pN 17 [17, 18, 19]) = true := fun h1 e e2 e3 b hb => by
    simp only [List.mem_cons, List.not_mem_nil, or_false] at hb
    rcases hb with rfl | rfl | rfl
    · rw [ob e]; exact ⟨by omega, mp1.1, mp1.nm rfl⟩
    · rw [ob e2]; exact ⟨by omega, mp2.1, mp2.nm rfl⟩
    · rw [ob e3]; exact ⟨by omega, mp3.1, mp3.nm rfl⟩
  have hold : ∀ (s1 : AS), s1.get 10 = some oL → s1.get 13 = some o13' → s1.get 14 = some o14 → s1.get 15 = some o15' → s1.get 16 = some o16' → ∀ b ∈ [10, 13, 14, 15, 16], ((objAt s1 b).rw = true ∨ objAt s1 b = .dead) ∧ (objAt s1 b).names (pN 17 [17, 18, 19]) = true := fun s1 k10 k13 k14 k15 k16 b hb => by
    simp only [List.mem_cons, List.not_mem_nil, or_false] at hb
    rcases hb with rfl | rfl | rfl | rfl | rfl
    · rw [ob k10]; exact ⟨.inl F.row.free.1, F.row.free.nm _⟩
    · rw [ob k13]; exact ⟨.inl m13.1, m13.nm rfl⟩
    · rw [ob k14]; exact ⟨.inl F.bp.1.1, F.bp.1.nm _⟩
    · rw [ob k15]; exact ⟨.inl m15.1, m15.nm rfl⟩
    · rw [ob k16]; exact ⟨.inl m16.1, m16.nm rfl⟩
  have nd : [10, n13, 14, n15, n16].Nodup := by
    simp only [List.nodup_cons, List.mem_cons, List.not_mem_nil, or_false, not_or, not_false_eq_true, List.nodup_nil, and_true]
    omega
  have i13 : n13 = 13 ∨ n13 ∈ [17, 18, 19] := q13.imp id fun h => by rw [h]; simp
  have i15 : n15 = 15 ∨ n15 ∈ [17, 18, 19] := q15.imp id fun h => by rcases h with h | h <;> rw [h] <;> simp
  have i16 : n16 = 16 ∨ n16 ∈ [17, 18, 19] := q16.imp id fun h => by rw [h]; simp
  have rr := hren (kap 10 n13 14 n15 n16) rfl rfl rfl rfl
  have ne1 : (Int.ofNat σy.en != Int.ofNat σy.en) = false := by simp
  have ne2 : (σy.wt != σy.wt) = false := by simp
  have LVn : (LV mr.ms 10).names (fun b => Nat.blt b 32) = true := LV_names _ _ _ rfl
  obtain ⟨S1, hS1⟩ : ∃ S1 : AS, S1 = (((((((((⟨(⟨(HC to lk th (.cells false (mx.C (.map 8))) (mapO mx.ms) (.cells false (mr.C (LV mr.ms 10))) oL (.cells false (σx.X to lk nxt xa xb xc xn bpx)) (.cells false (σy.Y to lk bp)) o13 o14 o15 o16) ++ frz (FC F3 F4), 17, none, []⟩ : AH), 17⟩ : AS).set 11 (.cells false (σy.X to lk nxt' xa' xb' xc' xn' bpx'))).set 7 (.cells false (mr.C (.map 8)))).set 8 (mapO mr.ms)).set 13 o13').set 15 o15').set 16 o16').push p1).push p2).push p3 := ⟨_, rfl⟩
  have k11 : S1.get 11 = some (.cells false (σy.X to lk nxt' xa' xb' xc' xn' bpx')) := by rw [hS1]; rfl
  have kk := (gg S1 (by rw [hS1]; rfl) (by rw [hS1]; rfl) (by rw [hS1]; rfl) (by rw [hS1]; rfl) (by rw [hS1]; rfl) (by rw [hS1]; rfl)).1
  have ho := over_at hX l13 l15 l16 k11
  have hg := got_at hX l13 l15 l16 hen k11
  have hw := waits_at hX l15 l16 (by omega) (by omega) k11 kk
  have hs := same_at (s := S1) (m := mr) (lv := LV mr.ms 10) (r7 := false) (r9 := false) LVn (by rw [hS1]; rfl) (by rw [hS1]; rfl)
  subst hS1
  have FF : Facts σy mr σy mr to oL nxt0 xa' xb' xc' xn' bpx0 bp (O6 o13' o15' o16' p1 p2 p3 n13) o14 (O6 o13' o15' o16' p1 p2 p3 n15) (O6 o13' o15' o16' p1 p2 p3 n16) .dead .dead .dead := ⟨F.row, lx _, lx _, lx _, hX0, F.bp⟩
  by_cases h0 : σy.ln = 0
  · have d0 : decide (σy.ln = 0) = true := decide_eq_true h0
    have e0 : (Int.ofNat σy.ln == Int.ofNat 0) = true := by simp [h0]
    rw [d0] at ho
    replace hS : Sound Tryd.prog (.call 10 [.ptr 11 0, .ptr 7 0] _) ⟨.ret, [.bool (decide (σy.ln = 0))], _⟩ := hS
    rw [d0] at hS
    have hx := runX_sound mixed none_sound (lb3_y l0 l1 to i 0 0 lk th 0 0 0 q.1 q.2.1 q.2.2 (.cells false (mx.C (.map 8))) (.cells false (mr.C (.map 8))) (mapO mx.ms) (mapO mr.ms) (.cells false (mr.C (LV mr.ms 10))) .dead oL .dead (.cells false (σx.X to lk nxt xa xb xc xn bpx)) (.cells false (σy.X to lk nxt' xa' xb' xc' xn' bpx')) .dead o13 o13' o14 .dead o15 o15' o16 o16' p1 p2 p3 F3 F4 σy.ln σy.en σy.wt (.int .u8 (Int.ofNat to)) (.int .i64 lk) (.int .u64 (Int.ofNat σy.w)) (.int .u8 (Int.ofNat σy.a)) (.int .u8 (Int.ofNat σy.b)) (.int .u8 (Int.ofNat σy.c)) (.int .u64 (Int.ofNat σy.n)) bp) ⟨by rw [e0]; rfl, hS, by rw [e0]; rfl, ho, hg, by rw [ne1]; rfl, hw, by rw [ne2]; rfl, hs, trivial⟩
    exact stepG F h3 h4 A hx hl0 hl1 hq ⟨hq.1, hq.2.1, rfl⟩ (by unfold T0 TT; repeat (first | exact rfl | refine ⟨_, _, rfl, ?_, ?_⟩ | exact see_same _ | exact .inl ⟨rfl, rfl⟩)) [17, 18, 19] (by decide) 10 n13 14 n15 n16 (.inl rfl) i13 (.inl rfl) i15 i16 nd (hnew _ rfl rfl rfl) (hold _ rfl rfl rfl rfl rfl) FF rfl rfl rfl rfl rfl rfl
      (by rw [rr.1, rr.2]; rfl) (by rw [F.bp.ren _ rfl]; rfl) (g13 _ rfl rfl rfl rfl rfl rfl) rfl (g15 _ rfl rfl rfl rfl rfl rfl) (g16 _ rfl rfl rfl rfl rfl rfl)
  · have d0 : decide (σy.ln = 0) = false := decide_eq_false h0
    have e0 : (Int.ofNat σy.ln == Int.ofNat 0) = false := by simp [h0]
    rw [d0] at ho
    replace hS : Sound Tryd.prog (.call 10 [.ptr 11 0, .ptr 7 0] _) ⟨.ret, [.bool (decide (σy.ln = 0))], _⟩ := hS
    rw [d0] at hS
    have hx := runX_sound mixed none_sound (lb3_n l0 l1 to i 0 0 lk th 0 0 0 q.1 q.2.1 q.2.2 (.cells false (mx.C (.map 8))) (.cells false (mr.C (.map 8))) (mapO mx.ms) (mapO mr.ms) (.cells false (mr.C (LV mr.ms 10))) .dead oL .dead (.cells false (σx.X to lk nxt xa xb xc xn bpx)) (.cells false (σy.X to lk nxt' xa' xb' xc' xn' bpx')) .dead o13 o13' o14 .dead o15 o15' o16 o16' p1 p2 p3 F3 F4 σy.ln σy.en σy.wt (.int .u8 (Int.ofNat to)) (.int .i64 lk) (.int .u64 (Int.ofNat σy.w)) (.int .u8 (Int.ofNat σy.a)) (.int .u8 (Int.ofNat σy.b)) (.int .u8 (Int.ofNat σy.c)) (.int .u64 (Int.ofNat σy.n)) bp) ⟨by rw [e0]; rfl, hS, by rw [e0]; rfl, ho, hg, by rw [ne1]; rfl, hw, by rw [ne2]; rfl, hs, trivial⟩
    exact stepG F h3 h4 A hx hl0 hl1 hq ⟨hq.1, hq.2.1, rfl⟩ (by unfold T0 TT; repeat (first | exact rfl | refine ⟨_, _, rfl, ?_, ?_⟩ | exact see_same _ | exact .inl ⟨rfl, rfl⟩)) [17, 18, 19] (by decide) 10 n13 14 n15 n16 (.inl rfl) i13 (.inl rfl) i15 i16 nd (hnew _ rfl rfl rfl) (hold _ rfl rfl rfl rfl rfl) FF rfl rfl rfl rfl rfl rfl
      (by rw [rr.1, rr.2]; rfl) (by rw [F.bp.ren _ rfl]; rfl) (g13 _ rfl rfl rfl rfl rfl rfl) rfl (g15 _ rfl rfl rfl rfl rfl rfl) (g16 _ rfl rfl rfl rfl rfl rfl)
end
/-! ### the plain Switch: what a step does to the memory, and to the count of what is left -/
theorem step_mem {σ : SS} {to : Nat} {lk : Int} {m : PM} {k : Nat} (h : m.Ok k) : (σ.step to lk m).2.Ok (k + 1) := by
  have hl : ∀ a, (m.load a).Ok (k + 1) := fun a => (h.load a).mono (Nat.le_succ k)
  have hc : ∀ a b c n ln2 en2, (σ.swp lk m a b c n ln2 en2).2.Ok (k + 1) := fun a b c n ln2 en2 => h.cas aP σ.w (ofp_lt a b c n)
  unfold SS.step
  split
  · exact hl _
  · exact hc ..
  · exact hc ..
  · exact hc ..
  · exact hc ..
  · exact hc ..
  · exact hl _
theorem swp_ln {σ : SS} {lk : Int} {m : PM} {a b c n ln2 en2 : Nat} (h0 : (σ.swp lk m a b c n ln2 en2).1.ln ≠ 0) : (σ.swp lk m a b c n ln2 en2).1.ln = ln2 ∧ (σ.swp lk m a b c n ln2 en2).1.br = newB n lk := by
  unfold SS.swp at h0 ⊢
  simp only at h0 ⊢
  by_cases hd : m.casd aP σ.w = true
  · rw [if_pos hd]; exact ⟨rfl, rfl⟩
  · rw [if_neg hd] at h0; exact absurd rfl h0
theorem newB_mu {n : Nat} {lk : Int} (hn : n < 281474976710656) (h0 : -9223372036854775808 ≤ lk) (h1 : lk ≤ 40) : (newB n lk).mu ≤ 228 := mu_le (newB_ok hn h0 h1)
theorem bar_mu {L : Nat} (hL : L = 3 ∨ L = 6) {w a b c n : Nat} {wt : Int} {br : Br} {v : Nat} (hB : br.Ok) (h0 : (SS.bar ⟨L, 4, w, wt, a, b, c, n, br⟩ (br.step v)).ln ≠ 0) : (SS.bar ⟨L, 4, w, wt, a, b, c, n, br⟩ (br.step v)).mu < SS.mu ⟨L, 4, w, wt, a, b, c, n, br⟩ := by
  have hk := step_k br v
  have hs := Go.Proofs.YtmonmmpegmdflaaDoor.ctlsPlay.step_mu hB v
  unfold SS.bar at h0 ⊢
  simp only at h0 ⊢
  rcases hk with e | e | e
  · rw [if_pos e]
    have := hs e
    rcases hL with rfl | rfl
    · show 233 + (br.step v).1.mu < 233 + br.mu; omega
    · show 2 + (br.step v).1.mu < 2 + br.mu; omega
  · have e0 : ¬ (br.step v).2 = 0 := by omega
    rw [if_neg e0, if_pos e]
    rcases hL with rfl | rfl
    · show 232 < 233 + br.mu; omega
    · show 1 < 2 + br.mu; omega
  · have e0 : ¬ (br.step v).2 = 0 := by omega
    have e1 : ¬ (br.step v).2 = 1 := by omega
    rw [if_neg e0, if_neg e1] at h0 ⊢
    rcases hL with rfl | rfl
    · show 1 < 233 + br.mu; omega
    · exact absurd rfl h0
theorem SS.mu_step {σ : SS} {to : Nat} {lk : Int} (h : σ.Ok to lk) (l0 : -9223372036854775808 ≤ lk) (l1 : lk ≤ 40) {m : PM} (h0 : (σ.step to lk m).1.ln ≠ 0) : (σ.step to lk m).1.mu < σ.mu := by
  obtain ⟨ln, en, w, wt, a, b, c, n, br⟩ := σ
  obtain ⟨⟨k1, k2⟩, k3, k4, k5, k6, k7, k8, k9, k10⟩ := h
  simp only at k1 k2 k3 k4 k5 k6 k7 k8 k9 k10
  subst k3
  have hln : ln = 1 ∨ ln = 2 ∨ ln = 3 ∨ ln = 4 ∨ ln = 5 ∨ ln = 6 ∨ ln = 7 ∨ ln = 8 := by omega
  have nx := nx4_lt (a := a) (b := b) (c := c) (n := n) k6 k7 (show nx4 a b c n = ((nx4 a b c n).1, (nx4 a b c n).2.1, (nx4 a b c n).2.2.1, (nx4 a b c n).2.2.2) from rfl)
  have bg := bg4_lt (a := a) (b := b) (c := c) (n := n) (t := to) k6 k9 (show bg4 a b c n to = ((bg4 a b c n to).1, (bg4 a b c n to).2.1, (bg4 a b c n to).2.2.1, (bg4 a b c n to).2.2.2) from rfl)
  have sw : ∀ {σ : SS} {a b c n ln2 en2 : Nat}, (σ.swp lk m a b c n ln2 en2).1.ln ≠ 0 → n < 281474976710656 → ∃ s : SS, s = (σ.swp lk m a b c n ln2 en2).1 ∧ s.ln = ln2 ∧ s.br.mu ≤ 228 := fun h hn => ⟨_, rfl, (swp_ln h).1, by rw [(swp_ln h).2]; exact newB_mu hn l0 l1⟩
  rcases hln with rfl | rfl | rfl | rfl | rfl | rfl | rfl | rfl
  · have h0 : (SS.one ⟨1, 4, w, wt, a, b, c, n, br⟩ to lk (getW m.ms aP)).ln ≠ 0 := h0
    show (SS.one ⟨1, 4, w, wt, a, b, c, n, br⟩ to lk (getW m.ms aP)).mu < 463
    generalize getW m.ms aP = v at h0
    have hN : v / 65536 % 281474976710656 < 281474976710656 := Nat.mod_lt _ (by omega)
    unfold SS.one at h0 ⊢
    split at h0
    · rename_i e
      rw [if_pos e]
      have := newB_mu hN l0 l1
      show 2 + (newB _ lk).mu < 463
      omega
    · rename_i e
      rw [if_neg e]
      split at h0
      · rename_i e2
        rw [if_pos e2]
        show 462 < 463
        omega
      · exact absurd rfl h0
  · obtain ⟨s, e, e1, e2⟩ := sw (show (SS.swp ⟨2, 4, w, wt, a, b, c, n, br⟩ lk m _ _ _ _ _ _).1.ln ≠ 0 from h0) bg.2.2.2
    show (SS.swp ⟨2, 4, w, wt, a, b, c, n, br⟩ lk m _ _ _ _ _ _).1.mu < 462
    rw [← e]
    unfold SS.mu
    rw [e1]
    show 233 + s.br.mu < 462
    omega
  · exact bar_mu (.inl rfl) (k10 rfl) h0
  · obtain ⟨s, e, e1, e2⟩ := sw (show (SS.swp ⟨4, 4, w, wt, a, b, c, n, br⟩ lk m _ _ _ _ _ _).1.ln ≠ 0 from h0) nx.2.2.2
    show (SS.swp ⟨4, 4, w, wt, a, b, c, n, br⟩ lk m _ _ _ _ _ _).1.mu < 232
    rw [← e]
    unfold SS.mu
    rw [e1]
    show 231 < 232
    omega
  · obtain ⟨s, e, e1, e2⟩ := sw (show (SS.swp ⟨5, 4, w, wt, a, b, c, n, br⟩ lk m _ _ _ _ _ _).1.ln ≠ 0 from h0) nx.2.2.2
    show (SS.swp ⟨5, 4, w, wt, a, b, c, n, br⟩ lk m _ _ _ _ _ _).1.mu < 231
    rw [← e]
    unfold SS.mu
    rw [e1]
    show 2 + s.br.mu < 231
    omega
  · exact bar_mu (.inr rfl) (k10 rfl) h0
  · exact absurd (swp_ln (σ := ⟨7, 4, w, wt, a, b, c, n, br⟩) (show (SS.swp ⟨7, 4, w, wt, a, b, c, n, br⟩ lk m _ _ _ _ _ _).1.ln ≠ 0 from h0)).1 h0
  · exact absurd (swp_ln (σ := ⟨8, 4, w, wt, a, b, c, n, br⟩) (show (SS.swp ⟨8, 4, w, wt, a, b, c, n, br⟩ lk m _ _ _ _ _ _).1.ln ≠ 0 from h0)).1 h0
/-! ### the law's loop -/
theorem cLp_eq : cLp = .seq cA (.seq (.block 1 cI) cR8) := by kernel_rfl
theorem cI_eq : cI = .seq cB1 (.seq cB2 cB3) := by kernel_rfl
section
variable {to : Nat} {lk th : Int} {l0 l1 : AV} {F3 F4 : List AV} {fs bt : MS} (W0 : RwL 3 l0 F3 fs) (W1 : RwL 4 l1 F4 bt)
include W0 W1
/-- A memory after what the law stores at turn i. -/
def putAt (bt : MS) (i : Nat) (m : PM) : PM := match bt[i]? with
  | some z => m.store z.1 z.2
  | none => m
omit W0 in
theorem putAt_ok {m : PM} {k : Nat} (h : m.Ok k) (i : Nat) : (putAt bt i m).Ok (k + 1) := by
  unfold putAt
  split
  · rename_i z hz
    exact h.store z.1 (W1.pos z (List.mem_of_getElem? hz)).2
  · exact h.mono (Nat.le_succ k)
theorem b1_all {q : AV × AV × AV} (hq : Cl q) {σx σy : SS} {m : PM} {s : AS} {π : Nat → Nat} {i k : Nat} (hI : InvG σx m σy m to lk th F3 F4 s π) (hm : m.Ok k) (hk : k < 16776000) :
    ∃ s' π' q', Cl q' ∧ Sound Tryd.prog (.code cB1 (rens π (T0 l0 l1 to lk th i q)) s) ⟨.normal, rens π' (T0 l0 l1 to lk th i q'), s'⟩ ∧ InvG σx (putAt bt i m) σy (putAt bt i m) to lk th F3 F4 s' π' := by
  obtain ⟨oL, nxt, xa, xb, xc, xn, bpx, bp, o13, o14, o15, o16, d1, d2, d3, F, A⟩ := hI
  unfold putAt
  have := hm.len
  split
  · rename_i z hz
    obtain ⟨s', π', h1, h2⟩ := at_b1s F W0.fz W1.fz A W0.nm W1.nm hq W1 hz (by omega)
    exact ⟨s', π', (.agg [junkA, junkA], .agg [junkA, junkA, junkA, junkA], q.2.2), ⟨rfl, rfl, hq.2.2⟩, h1, h2⟩
  · rename_i hz
    obtain ⟨s', π', h1, h2⟩ := at_b1n F W0.fz W1.fz A W0.nm W1.nm hq W1 (by simpa using hz)
    exact ⟨s', π', _, hq, h1, h2⟩
theorem b2_all {q : AV × AV × AV} (hq : Cl q) {σx σy : SS} {mx mr : PM} {s : AS} {π : Nat → Nat} {i k : Nat} (hI : InvG σx mx σy mr to lk th F3 F4 s π) (hO : σy.Ok to lk) (hm : mr.Ok k) (hk : k < 16776000) :
    ∃ s' π', Sound Tryd.prog (.code cB2 (rens π (T0 l0 l1 to lk th i q)) s) ⟨.normal, rens π' (T0 l0 l1 to lk th i q), s'⟩ ∧ InvG σx mx (σy.step to lk mr).1 (σy.step to lk mr).2 to lk th F3 F4 s' π' := by
  obtain ⟨oL, nxt, xa, xb, xc, xn, bpx, bp, o13, o14, o15, o16, d1, d2, d3, F, A⟩ := hI
  have := hm.len
  exact at_b2 F W0.fz W1.fz A W0.nm W1.nm hq hO (by omega) hm.val
theorem b3_all {q : AV × AV × AV} (hq : Cl q) {σx σy : SS} {mx mr : PM} {s : AS} {π : Nat → Nat} {i k : Nat} (hI : InvG σx mx σy mr to lk th F3 F4 s π) (hO : σx.Ok to lk) (hm : mx.Ok k) (hs : σx.step to lk mx = (σy, mr)) (hen : σy.ln ≠ 0 → σy.en = 4) :
    ∃ s' π' q', Cl q' ∧ Sound Tryd.prog (.code cB3 (rens π (T0 l0 l1 to lk th i q)) s) ⟨.normal, rens π' (T0 l0 l1 to lk th i q'), s'⟩ ∧ InvG σy mr σy mr to lk th F3 F4 s' π' := by
  obtain ⟨oL, nxt, xa, xb, xc, xn, bpx, bp, o13, o14, o15, o16, d1, d2, d3, F, A⟩ := hI
  obtain ⟨s', π', h1, h2⟩ := at_b3 F W0.fz W1.fz A W0.nm W1.nm hq hO hm.val hs hen
  exact ⟨s', π', (q.1, q.2.1, .agg [junkA, junkA]), ⟨hq.1, hq.2.1, rfl⟩, h1, h2⟩
theorem r8_all {q : AV × AV × AV} (hq : Cl q) {σx σy : SS} {mx mr : PM} {s : AS} {π : Nat → Nat} {i : Nat} (hI : InvG σx mx σy mr to lk th F3 F4 s π) (hi : i < 500) :
    ∃ s' π', Sound Tryd.prog (.code cR8 (rens π (T0 l0 l1 to lk th i q)) s) ⟨.normal, rens π' (T0 l0 l1 to lk th (i + 1) q), s'⟩ ∧ InvG σx mx σy mr to lk th F3 F4 s' π' := by
  obtain ⟨oL, nxt, xa, xb, xc, xn, bpx, bp, o13, o14, o15, o16, d1, d2, d3, F, A⟩ := hI
  exact at_r8 F W0.fz W1.fz A W0.nm W1.nm hq hi
theorem a_all {q : AV × AV × AV} (hq : Cl q) {σx σy : SS} {mx mr : PM} {s : AS} {π : Nat → Nat} {i : Nat} (hI : InvG σx mx σy mr to lk th F3 F4 s π) (hi : i < 500) :
    ∃ s' π', Sound Tryd.prog (.code cA (rens π (T0 l0 l1 to lk th i q)) s) ⟨if σy.ln = 0 then .exit 0 else .normal, rens π' (T0 l0 l1 to lk th i q), s'⟩ ∧ InvG σx mx σy mr to lk th F3 F4 s' π' := by
  obtain ⟨oL, nxt, xa, xb, xc, xn, bpx, bp, o13, o14, o15, o16, d1, d2, d3, F, A⟩ := hI
  split
  · rename_i h
    exact at_end F W0.fz W1.fz A W0.nm W1.nm hq hi h
  · rename_i h
    exact at_go F W0.fz W1.fz A W0.nm W1.nm hq hi h
theorem law_loop (l0' : -9223372036854775808 ≤ lk) (l1' : lk ≤ 40) : ∀ (d i k : Nat) (σ : SS) (m : PM) (s : AS) (π : Nat → Nat) (q : AV × AV × AV), 500 - i = d → Cl q → i < 500 → (σ.ln ≠ 0 → σ.Ok to lk ∧ σ.mu + i ≤ 463) → m.Ok k → k + 2 * (500 - i) < 16776000 → InvG σ m σ m to lk th F3 F4 s π →
    ∃ σ' m' i' s' π' q', σ'.ln = 0 ∧ Cl q' ∧ Sound Tryd.prog (.code (.loop cLp) (rens π (T0 l0 l1 to lk th i q)) s) ⟨.exit 0, rens π' (T0 l0 l1 to lk th i' q'), s'⟩ ∧ InvG σ' m' σ' m' to lk th F3 F4 s' π' := by
  intro d
  induction d with
  | zero => intro i k σ m s π q hd hq hi; omega
  | succ d ih =>
    intro i k σ m s π q hd hq hi hσ hm hk hI
    obtain ⟨s1, π1, hA, hI1⟩ := a_all W0 W1 hq (i := i) hI hi
    by_cases h0 : σ.ln = 0
    · rw [if_pos h0] at hA
      refine ⟨σ, m, i, s1, π1, q, h0, hq, loop_stop ?_ (by simp), hI1⟩
      rw [cLp_eq]
      exact seq_stop hA (by simp)
    · rw [if_neg h0] at hA
      obtain ⟨hO, hmu⟩ := hσ h0
      have hpos : 0 < σ.mu := by
        have := hO.ln
        unfold SS.mu
        split <;> omega
      obtain ⟨s2, π2, q2, hq2, hB1, hI2⟩ := b1_all W0 W1 hq (i := i) hI1 hm (by omega)
      have hm1 := putAt_ok W1 hm i
      obtain ⟨s3, π3, hB2, hI3⟩ := b2_all W0 W1 hq2 (i := i) hI2 hO hm1 (by omega)
      have hm2 := step_mem (σ := σ) (to := to) (lk := lk) hm1
      have hok := fun h => SS.step_ok hO l0' l1' hm1 h
      obtain ⟨s4, π4, q4, hq4, hB3, hI4⟩ := b3_all W0 W1 hq2 (i := i) hI3 hO hm1 rfl (fun h => (hok h).en)
      obtain ⟨s5, π5, hR, hI5⟩ := r8_all W0 W1 hq4 (i := i) hI4 hi
      have body : Sound Tryd.prog (.code cLp (rens π (T0 l0 l1 to lk th i q)) s) ⟨.normal, rens π5 (T0 l0 l1 to lk th (i + 1) q4), s5⟩ := by
        rw [cLp_eq, cI_eq]
        exact seq_next hA (seq_next (block_past (seq_next hB1 (seq_next hB2 hB3)) (by simp)) hR)
      obtain ⟨σ', m', i', s', π', q', e0, hq', hL, hI'⟩ := ih (i + 1) (k + 1 + 1) _ _ s5 π5 q4 (by omega) hq4 (by omega) (fun h => ⟨hok h, by have := SS.mu_step hO l0' l1' h; omega⟩) hm2 (by omega) hI5
      exact ⟨σ', m', i', s', π', q', e0, hq', loop_next body hL, hI'⟩
end
end Go.Proofs.YtmonmmpegmdflaaDoor.ctlsPlay
