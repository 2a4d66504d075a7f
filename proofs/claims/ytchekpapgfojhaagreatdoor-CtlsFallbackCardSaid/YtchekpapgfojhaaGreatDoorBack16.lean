/- The loop of the law. Conditions: those that each theorem names, and no others. -/
import Derived.Test.YtchekpapgfojhaaGreatDoorBack15
import Derived.Test.YtchekpapgfojhaaGreatDoorMini3
namespace Go.Proofs.YtchekpapgfojhaaGreatDoor.ctlsFallback
open Go Go.Mini
/-! ### a piece of the loop, wherever the small heap lies -/
def T0 (l0 l1 : AV) (to : Nat) (lk th : Int) (i : Nat) (q : AV × AV × AV) : List AV := TT l0 l1 to lk th i q.1 q.2.1 q.2.2
/-- What the slots of aggregates hold: nothing that names a block. -/
def Cl (q : AV × AV × AV) : Prop := q.1.names (fun _ => false) = true ∧ q.2.1.names (fun _ => false) = true ∧ q.2.2.names (fun _ => false) = true
theorem cl_nm {x : AV} (h : x.names (fun _ => false) = true) (p : Nat → Bool) : x.names p = true := names_sub (fun _ h => by cases h) h
theorem cl_ren {x : AV} (h : x.names (fun _ => false) = true) (π : Nat → Nat) : x.ren π = x := by rw [ren_congr (p := fun _ => false) (π' := fun b => b) (fun _ h => by cases h) h, ren_id]
def L34 (l : AV) : Prop := l.names (fun b => Nat.beq b 3 || Nat.beq b 4) = true
theorem L34.nm {l : AV} (h : L34 l) {p : Nat → Bool} (h3 : p 3 = true) (h4 : p 4 = true) : l.names p = true := names_sub (fun b hb => by
  rcases Bool.or_eq_true_iff.1 hb with e | e
  · rw [Nat.eq_of_beq_eq_true e]; exact h3
  · rw [Nat.eq_of_beq_eq_true e]; exact h4) h
theorem L34.ren {l : AV} (h : L34 l) {π : Nat → Nat} (h3 : π 3 = 3) (h4 : π 4 = 4) : l.ren π = l := by
  rw [ren_congr (p := fun b => Nat.beq b 3 || Nat.beq b 4) (π' := fun b => b) (fun b hb => by
    rcases Bool.or_eq_true_iff.1 hb with e | e
    · rw [Nat.eq_of_beq_eq_true e]; exact h3
    · rw [Nat.eq_of_beq_eq_true e]; exact h4) h, ren_id]
def kap (k10 k13 k14 k15 k16 b : Nat) : Nat := if b = 10 then k10 else if b = 13 then k13 else if b = 14 then k14 else if b = 15 then k15 else if b = 16 then k16 else b
theorem kap_lo {k10 k13 k14 k15 k16 b : Nat} (h : b ∉ [10, 13, 14, 15, 16]) : kap k10 k13 k14 k15 k16 b = b := by
  simp only [List.mem_cons, List.not_mem_nil, or_false, not_or] at h
  unfold kap
  rw [if_neg h.1, if_neg h.2.1, if_neg h.2.2.1, if_neg h.2.2.2.1, if_neg h.2.2.2.2]
set_option maxRecDepth 100000 in
theorem T0_names {l0 l1 : AV} (h0 : L34 l0) (h1 : L34 l1) (to : Nat) (lk th : Int) (i : Nat) {q : AV × AV × AV} (hq : Cl q) : namess (fun b => Nat.blt b 21) (T0 l0 l1 to lk th i q) = true := by
  have e0 : l0.names (fun b => Nat.blt b 21) = true := h0.nm rfl rfl
  have e1 : l1.names (fun b => Nat.blt b 21) = true := h1.nm rfl rfl
  unfold T0 TT
  simp only [namess, e0, e1, cl_nm hq.1, cl_nm hq.2.1, cl_nm hq.2.2, Bool.true_and, Bool.and_true]
  rfl
set_option maxRecDepth 100000 in
theorem T0_kap {l0 l1 : AV} (h0 : L34 l0) (h1 : L34 l1) (to : Nat) (lk th : Int) (i k10 k13 k14 k15 k16 : Nat) {q : AV × AV × AV} (hq : Cl q) : rens (kap k10 k13 k14 k15 k16) (T0 l0 l1 to lk th i q) = T0 l0 l1 to lk th i q := by
  have e0 : l0.ren (kap k10 k13 k14 k15 k16) = l0 := h0.ren rfl rfl
  have e1 : l1.ren (kap k10 k13 k14 k15 k16) = l1 := h1.ren rfl rfl
  unfold T0 TT
  simp only [rens, e0, e1, cl_ren hq.1, cl_ren hq.2.1, cl_ren hq.2.2]
  rfl
def N16 : List Nat := [5, 6, 7, 8, 9, 10, 11, 12, 13, 14, 15, 16, 17, 18, 19, 20]
theorem kap_in {k10 k13 k14 k15 k16 : Nat} {new : List Nat} (q10 : k10 = 10 ∨ k10 ∈ new) (q13 : k13 = 13 ∨ k13 ∈ new) (q14 : k14 = 14 ∨ k14 ∈ new) (q15 : k15 = 15 ∨ k15 ∈ new) (q16 : k16 = 16 ∨ k16 ∈ new) (b : Nat) : kap k10 k13 k14 k15 k16 b = b ∨ kap k10 k13 k14 k15 k16 b ∈ new := by
  unfold kap
  split
  · rename_i e; rw [e]; exact q10
  split
  · rename_i e; rw [e]; exact q13
  split
  · rename_i e; rw [e]; exact q14
  split
  · rename_i e; rw [e]; exact q15
  split
  · rename_i e; rw [e]; exact q16
  exact .inl rfl
theorem kap_cases (k10 k13 k14 k15 k16 b : Nat) : (kap k10 k13 k14 k15 k16 b = b ∧ b ≠ 10 ∧ b ≠ 13 ∧ b ≠ 14 ∧ b ≠ 15 ∧ b ≠ 16) ∨ (b = 10 ∧ kap k10 k13 k14 k15 k16 b = k10) ∨ (b = 13 ∧ kap k10 k13 k14 k15 k16 b = k13) ∨ (b = 14 ∧ kap k10 k13 k14 k15 k16 b = k14) ∨ (b = 15 ∧ kap k10 k13 k14 k15 k16 b = k15) ∨ (b = 16 ∧ kap k10 k13 k14 k15 k16 b = k16) := by
  by_cases e : b ∉ [10, 13, 14, 15, 16]
  · have := kap_lo (k10 := k10) (k13 := k13) (k14 := k14) (k15 := k15) (k16 := k16) e
    simp only [List.mem_cons, List.not_mem_nil, or_false, not_or] at e
    exact .inl ⟨this, e.1, e.2.1, e.2.2.1, e.2.2.2.1, e.2.2.2.2⟩
  · simp only [List.mem_cons, List.not_mem_nil, or_false, Classical.not_not] at e
    rcases e with rfl | rfl | rfl | rfl | rfl
    · exact .inr (.inl ⟨rfl, rfl⟩)
    · exact .inr (.inr (.inl ⟨rfl, rfl⟩))
    · exact .inr (.inr (.inr (.inl ⟨rfl, rfl⟩)))
    · exact .inr (.inr (.inr (.inr (.inl ⟨rfl, rfl⟩))))
    · exact .inr (.inr (.inr (.inr (.inr ⟨rfl, rfl⟩))))
theorem kap_no {N b k a : Nat} (hb : b < N) (h : b = k) (q : k = a ∨ N ≤ k) (hne : b ≠ a) : False := by omega
theorem N16_lt {b : Nat} (h : b ∈ N16) : b < 21 := by
  simp only [N16, List.mem_cons, List.not_mem_nil, or_false] at h
  omega
theorem kap_inj {N k10 k13 k14 k15 k16 : Nat} (q10 : k10 = 10 ∨ N ≤ k10) (q13 : k13 = 13 ∨ N ≤ k13) (q14 : k14 = 14 ∨ N ≤ k14) (q15 : k15 = 15 ∨ N ≤ k15) (q16 : k16 = 16 ∨ N ≤ k16) (nd : [k10, k13, k14, k15, k16].Nodup) {b c : Nat} (hb : b < N) (hc : c < N) (h : kap k10 k13 k14 k15 k16 b = kap k10 k13 k14 k15 k16 c) : b = c := by
  simp only [List.nodup_cons, List.mem_cons, List.not_mem_nil, or_false, not_or, not_false_eq_true, List.nodup_nil, and_true] at nd
  obtain ⟨⟨d1, d2, d3, d4⟩, ⟨d5, d6, d7⟩, ⟨d8, d9⟩, d10⟩ := nd
  rcases kap_cases k10 k13 k14 k15 k16 b with u | u | u | u | u | u <;> rcases kap_cases k10 k13 k14 k15 k16 c with v | v | v | v | v | v
  · rw [u.1, v.1] at h; exact h
  · rw [u.1, v.2] at h; exact (kap_no hb h q10 u.2.1).elim
  · rw [u.1, v.2] at h; exact (kap_no hb h q13 u.2.2.1).elim
  · rw [u.1, v.2] at h; exact (kap_no hb h q14 u.2.2.2.1).elim
  · rw [u.1, v.2] at h; exact (kap_no hb h q15 u.2.2.2.2.1).elim
  · rw [u.1, v.2] at h; exact (kap_no hb h q16 u.2.2.2.2.2).elim
  · rw [u.2, v.1] at h; exact (kap_no hc h.symm q10 v.2.1).elim
  · rw [u.1, v.1]
  · rw [u.2, v.2] at h; exact absurd h d1
  · rw [u.2, v.2] at h; exact absurd h d2
  · rw [u.2, v.2] at h; exact absurd h d3
  · rw [u.2, v.2] at h; exact absurd h d4
  · rw [u.2, v.1] at h; exact (kap_no hc h.symm q13 v.2.2.1).elim
  · rw [u.2, v.2] at h; exact absurd h.symm d1
  · rw [u.1, v.1]
  · rw [u.2, v.2] at h; exact absurd h d5
  · rw [u.2, v.2] at h; exact absurd h d6
  · rw [u.2, v.2] at h; exact absurd h d7
  · rw [u.2, v.1] at h; exact (kap_no hc h.symm q14 v.2.2.2.1).elim
  · rw [u.2, v.2] at h; exact absurd h.symm d2
  · rw [u.2, v.2] at h; exact absurd h.symm d5
  · rw [u.1, v.1]
  · rw [u.2, v.2] at h; exact absurd h d8
  · rw [u.2, v.2] at h; exact absurd h d9
  · rw [u.2, v.1] at h; exact (kap_no hc h.symm q15 v.2.2.2.2.1).elim
  · rw [u.2, v.2] at h; exact absurd h.symm d3
  · rw [u.2, v.2] at h; exact absurd h.symm d6
  · rw [u.2, v.2] at h; exact absurd h.symm d8
  · rw [u.1, v.1]
  · rw [u.2, v.2] at h; exact absurd h d10
  · rw [u.2, v.1] at h; exact (kap_no hc h.symm q16 v.2.2.2.2.2).elim
  · rw [u.2, v.2] at h; exact absurd h.symm d4
  · rw [u.2, v.2] at h; exact absurd h.symm d7
  · rw [u.2, v.2] at h; exact absurd h.symm d9
  · rw [u.2, v.2] at h; exact absurd h.symm d10
  · rw [u.1, v.1]
/-- The small heap's contents. -/
structure ST where
  φx : FS
  mx : PM
  φy : FS
  mr : PM
  oL : AObj
  nxt : AV
  xa : Nat
  xb : Nat
  xc : Nat
  xn : Nat
  bpx : AV
  bp : AV
  o13 : AObj
  o14 : AObj
  o15 : AObj
  o16 : AObj
def ST.X (S : ST) (lk : Int) : List AV := S.φx.σ.X 2 lk S.nxt S.xa S.xb S.xc S.xn S.bpx
def ST.Y (S : ST) (lk : Int) : List AV := S.φy.σ.Y 2 lk S.bp
def ST.H (S : ST) (to : Nat) (lk th tt : Int) : List (Nat × AObj) := HF to lk th (.cells false (S.mx.C (.map 8))) (mapO S.mx.ms) (.cells false (S.mr.C (LV S.mr.ms 10))) S.oL (.cells false (S.X lk)) (.cells false (S.Y lk)) S.o13 S.o14 S.o15 S.o16 (.cells false S.φx.Fx) (.cells false S.φy.Fy) (.cells false (S.φx.Gx tt)) (.cells false (S.φy.Gy tt))
structure ST.F (S : ST) : Prop where
  row : RO S.mr.ms S.oL
  l13 : Lx S.o13
  l15 : Lx S.o15
  l16 : Lx S.o16
  xs : XS S.φx.σ 2 13 15 16 S.nxt S.xa S.xb S.xc S.xn S.bpx (O6 S.o13 S.o15 S.o16 .dead .dead .dead)
  bp : Bp0 S.φy.σ S.bp S.o14
def InvF (φx : FS) (mx : PM) (φy : FS) (mr : PM) (to : Nat) (lk th tt : Int) (F3 F4 : List AV) (s : AS) (π : Nat → Nat) : Prop := ∃ S : ST, S.φx = φx ∧ S.mx = mx ∧ S.φy = φy ∧ S.mr = mr ∧ S.F ∧ At Tryz.prog (S.H to lk th tt) (FC F3 F4) s π
theorem ST.F.xn {S : ST} (h : S.F) {lk : Int} (p : Nat → Bool) (h11 : p 11 = true) (h13 : p 13 = true) (h15 : p 15 = true) (h16 : p 16 = true) : namess p (S.X lk) = true := X_lt h.xs p h11 h13 h15 h16
theorem ST.F.yn {S : ST} (h : S.F) {lk : Int} (p : Nat → Bool) (h14 : p 14 = true) : namess p (S.Y lk) = true := by
  have hb : S.bp.names p = true := by
    rcases h.bp.2 with ⟨e, _⟩ | ⟨e, _⟩ <;> rw [e]
    · rfl
    · exact h14
  show (S.bp.names _ && true) = true
  rw [hb]
  rfl
theorem ST.F.kan {S : ST} (h : S.F) {to : Nat} {lk th tt : Int} {F3 F4 : List AV} (h3 : namess (fun _ => false) F3 = true) (h4 : namess (fun _ => false) F4 = true) : Kan Tryz.prog (S.H to lk th tt) (FC F3 F4) 21 where
  glob := by rw [gl3]; decide
  ok := ⟨⟨show 5 < 21 by decide, rfl, rfl, rfl⟩, ⟨show 6 < 21 by decide, rfl, rfl, rfl⟩, ⟨show 7 < 21 by decide, rfl, rfl, rfl⟩, ⟨show 8 < 21 by decide, rfl, mapO_names _ _, rfl⟩, ⟨show 9 < 21 by decide, rfl, C_names _ _ _ (LV_names _ _ _ rfl), rfl⟩, ⟨show 10 < 21 by decide, h.row.free.1, h.row.free.nm _, rfl⟩,
      ⟨show 11 < 21 by decide, rfl, h.xn _ rfl rfl rfl rfl, rfl⟩, ⟨show 12 < 21 by decide, rfl, h.yn _ rfl, rfl⟩, ⟨show 13 < 21 by decide, h.l13.1, h.l13.nm rfl, rfl⟩, ⟨show 14 < 21 by decide, h.bp.1.1, h.bp.1.nm _, rfl⟩, ⟨show 15 < 21 by decide, h.l15.1, h.l15.nm rfl, rfl⟩, ⟨show 16 < 21 by decide, h.l16.1, h.l16.nm rfl, rfl⟩,
      ⟨show 17 < 21 by decide, rfl, S.φx.Fx_names _ rfl rfl rfl, rfl⟩, ⟨show 18 < 21 by decide, rfl, S.φy.Fy_names _ rfl rfl, rfl⟩, ⟨show 19 < 21 by decide, rfl, rfl, rfl⟩, ⟨show 20 < 21 by decide, rfl, rfl, rfl⟩, trivial⟩
  nodup := show N16.Nodup by decide
  fz := by
    intro x hx
    simp only [FC, List.mem_cons, List.not_mem_nil, or_false] at hx
    rcases hx with rfl | rfl | rfl | rfl | rfl
    · exact ⟨show 0 < 21 by decide, show 0 ∉ N16 by decide, rfl⟩
    · exact ⟨show 1 < 21 by decide, show 1 ∉ N16 by decide, rfl⟩
    · exact ⟨show 2 < 21 by decide, show 2 ∉ N16 by decide, rfl⟩
    · exact ⟨show 3 < 21 by decide, show 3 ∉ N16 by decide, h3⟩
    · exact ⟨show 4 < 21 by decide, show 4 ∉ N16 by decide, h4⟩
/-- A state behind a piece that was run at the canonical names: what lies where. -/
structure Lies (S : ST) (lk tt : Int) (to : Nat) (th : Int) (s1 : AS) (κ : Nat → Nat) : Prop where
  g5 : s1.get 5 = some (.cells false [.int .u8 (Int.ofNat to), .int .i64 lk, .int .i64 th])
  g6 : s1.get 6 = some (.cells false [.ptr 7 0, .ptr 9 0])
  g7 : s1.get 7 = some (.cells false (S.mx.C (.map 8)))
  g8 : s1.get 8 = some (mapO S.mx.ms)
  g9 : s1.get 9 = some (.cells false (S.mr.C (LV S.mr.ms (κ 10))))
  g10 : s1.get (κ 10) = some S.oL
  g11 : s1.get 11 = some (.cells false (S.φx.σ.X 2 lk (S.nxt.ren κ) S.xa S.xb S.xc S.xn (S.bpx.ren κ)))
  g12 : s1.get 12 = some (.cells false (S.φy.σ.Y 2 lk (S.bp.ren κ)))
  g13 : s1.get (κ 13) = some S.o13
  g14 : s1.get (κ 14) = some S.o14
  g15 : s1.get (κ 15) = some S.o15
  g16 : s1.get (κ 16) = some S.o16
  g17 : s1.get 17 = some (.cells false S.φx.Fx)
  g18 : s1.get 18 = some (.cells false S.φy.Fy)
  g19 : s1.get 19 = some (.cells false (S.φx.Gx tt))
  g20 : s1.get 20 = some (.cells false (S.φy.Gy tt))
section
variable {S S' : ST} {to : Nat} {lk th tt : Int} {F3 F4 : List AV} {Cd : Code} {e : AExit} {ts1 : List AV} {s1 s : AS} {π : Nat → Nat} {i i' : Nat} {l0 l1 : AV} {q q' : AV × AV × AV}
theorem stepF (F : S.F) (h3 : namess (fun _ => false) F3 = true) (h4 : namess (fun _ => false) F4 = true) (A : At Tryz.prog (S.H to lk th tt) (FC F3 F4) s π)
    (h : Sound Tryz.prog (.code Cd (T0 l0 l1 to lk th i q) (canF (S.H to lk th tt) (FC F3 F4) 21 21)) ⟨e, ts1, s1⟩)
    (hl0 : L34 l0) (hl1 : L34 l1) (hq : Cl q) (hq' : Cl q') (hts : seesT (fun b => b) (fun _ => true) (T0 l0 l1 to lk th i' q') ts1)
    (new : List Nat) (hn : new.Nodup) (k10 k13 k14 k15 k16 : Nat) (q10 : k10 = 10 ∨ k10 ∈ new) (q13 : k13 = 13 ∨ k13 ∈ new) (q14 : k14 = 14 ∨ k14 ∈ new) (q15 : k15 = 15 ∨ k15 ∈ new) (q16 : k16 = 16 ∨ k16 ∈ new) (nd : [k10, k13, k14, k15, k16].Nodup)
    (hnew : ∀ b ∈ new, 21 ≤ b ∧ (objAt s1 b).rw = true ∧ (objAt s1 b).names (pN 21 new) = true)
    (hold : ∀ b ∈ [10, 13, 14, 15, 16], ((objAt s1 b).rw = true ∨ objAt s1 b = .dead) ∧ (objAt s1 b).names (pN 21 new) = true)
    (F' : S'.F) (G : Lies S' lk tt to th s1 (kap k10 k13 k14 k15 k16)) :
    ∃ s' π', Sound Tryz.prog (.code Cd (rens π (T0 l0 l1 to lk th i q)) s) ⟨e, rens π' (T0 l0 l1 to lk th i' q'), s'⟩ ∧ InvF S'.φx S'.mx S'.φy S'.mr to lk th tt F3 F4 s' π' := by
  have K := F.kan (to := to) (lk := lk) (th := th) (tt := tt) h3 h4
  have big : ∀ {k a : Nat}, k = a ∨ k ∈ new → k = a ∨ 21 ≤ k := fun h => h.imp id fun h => (hnew _ h).1
  have kin := kap_in (k10 := k10) (k13 := k13) (k14 := k14) (k15 := k15) (k16 := k16) q10 q13 q14 q15 q16
  have kN : ∀ b, Nat.blt b 21 = true → pN 21 new (kap k10 k13 k14 k15 k16 b) = true := fun b hb => by
    unfold pN
    rcases kin b with h | h
    · rw [h, hb]; rfl
    · simp [h]
  have l21 : ∀ b, Nat.blt b 21 = true → pN 21 new b = true := fun b hb => by unfold pN; rw [hb]; rfl
  have ob : ∀ {b : Nat} {o : AObj}, s1.get b = some o → objAt s1 b = o := fun h => by simp [objAt, h]
  have old : ∀ {b : Nat} {cs : List AV}, s1.get b = some (.cells false cs) → namess (pN 21 new) cs = true → ((objAt s1 b).rw = true ∨ objAt s1 b = .dead) ∧ (objAt s1 b).names (pN 21 new) = true := fun h hh => by rw [ob h]; exact ⟨.inl rfl, hh⟩
  have X' : namess (pN 21 new) (S'.φx.σ.X 2 lk (S'.nxt.ren (kap k10 k13 k14 k15 k16)) S'.xa S'.xb S'.xc S'.xn (S'.bpx.ren (kap k10 k13 k14 k15 k16))) = true := namess_ren kN (S'.X lk) (F'.xn (fun b => Nat.blt b 21) rfl rfl rfl rfl)
  have Y' : namess (pN 21 new) (S'.φy.σ.Y 2 lk (S'.bp.ren (kap k10 k13 k14 k15 k16))) = true := namess_ren kN (S'.Y lk) (F'.yn (fun b => Nat.blt b 21) rfl)
  have hold' : ∀ b ∈ N16, ((objAt s1 b).rw = true ∨ objAt s1 b = .dead) ∧ (objAt s1 b).names (pN 21 new) = true := by
    intro b hb
    simp only [N16, List.mem_cons, List.not_mem_nil, or_false] at hb
    rcases hb with rfl | rfl | rfl | rfl | rfl | rfl | rfl | rfl | rfl | rfl | rfl | rfl | rfl | rfl | rfl | rfl
    · exact old G.g5 rfl
    · exact old G.g6 rfl
    · exact old G.g7 rfl
    · rw [ob G.g8]; exact ⟨.inl rfl, mapO_names _ _⟩
    · exact old G.g9 (C_names _ _ _ (LV_names _ _ _ (kN 10 rfl)))
    · exact hold 10 (by simp)
    · exact old G.g11 X'
    · exact old G.g12 Y'
    · exact hold 13 (by simp)
    · exact hold 14 (by simp)
    · exact hold 15 (by simp)
    · exact hold 16 (by simp)
    · exact old G.g17 (S'.φx.Fx_names _ rfl rfl rfl)
    · exact old G.g18 (S'.φy.Fy_names _ rfl rfl)
    · exact old G.g19 rfl
    · exact old G.g20 rfl
  have inN : ∀ b ∈ N16, kap k10 k13 k14 k15 k16 b ∈ N16 ∨ kap k10 k13 k14 k15 k16 b ∈ new := fun b hb => (kin b).imp (fun h => by rw [h]; exact hb) id
  have r11 : kap k10 k13 k14 k15 k16 11 = 11 := kap_lo (by simp)
  have r12 : kap k10 k13 k14 k15 k16 12 = 12 := kap_lo (by simp)
  have r17 : kap k10 k13 k14 k15 k16 17 = 17 := kap_lo (by simp)
  have r19 : kap k10 k13 k14 k15 k16 19 = 19 := kap_lo (by simp)
  have r20 : kap k10 k13 k14 k15 k16 20 = 20 := kap_lo (by simp)
  have e9 : s1.get 9 = some (AObj.ren (kap k10 k13 k14 k15 k16) (.cells false (S'.mr.C (LV S'.mr.ms 10)))) := by
    show s1.get 9 = some (.cells false (S'.mr.C ((LV S'.mr.ms 10).ren _)))
    rw [LV_ren]
    exact G.g9
  have e17 : s1.get 17 = some (AObj.ren (kap k10 k13 k14 k15 k16) (.cells false S'.φx.Fx)) := by
    rw [G.g17]
    show _ = some (AObj.cells false (rens (kap k10 k13 k14 k15 k16) S'.φx.Fx))
    have hp : ∀ b, (Nat.beq b 11 || (Nat.beq b 17 || Nat.beq b 19)) = true → kap k10 k13 k14 k15 k16 b = b := fun b hb => by
      have : b = 11 ∨ b = 17 ∨ b = 19 := by simpa using hb
      rcases this with rfl | rfl | rfl
      · exact r11
      · exact r17
      · exact r19
    rw [rens_congr (p := fun b => Nat.beq b 11 || (Nat.beq b 17 || Nat.beq b 19)) (π' := fun b => b) hp (S'.φx.Fx_names _ rfl rfl rfl), rens_id]
  have e18 : s1.get 18 = some (AObj.ren (kap k10 k13 k14 k15 k16) (.cells false S'.φy.Fy)) := by
    rw [G.g18]
    show _ = some (AObj.cells false [_, _, .ptr (kap k10 k13 k14 k15 k16 12) 0, .ptr (kap k10 k13 k14 k15 k16 20) 0])
    rw [r12, r20]
    rfl
  obtain ⟨s', π', hs, ha⟩ := At.step (n0 := 21) (nx0 := 21) (new := new) (κ := kap k10 k13 k14 k15 k16) (T' := T0 l0 l1 to lk th i' q') (bs' := S'.H to lk th tt)
    A K hn hnew (fun g hg => kap_lo (by rw [gl3] at hg; simp; omega)) (fun x hx => by
      simp only [FC, List.mem_cons, List.not_mem_nil, or_false] at hx
      rcases hx with rfl | rfl | rfl | rfl | rfl <;> rfl)
    ⟨⟨inN 5 (by simp [N16]), G.g5⟩, ⟨inN 6 (by simp [N16]), G.g6⟩, ⟨inN 7 (by simp [N16]), G.g7⟩, ⟨inN 8 (by simp [N16]), by rw [mapO_ren]; exact G.g8⟩, ⟨inN 9 (by simp [N16]), e9⟩, ⟨inN 10 (by simp [N16]), by rw [F'.row.free.ren]; exact G.g10⟩,
      ⟨inN 11 (by simp [N16]), G.g11⟩, ⟨inN 12 (by simp [N16]), G.g12⟩, ⟨inN 13 (by simp [N16]), by rw [F'.l13.ren r11]; exact G.g13⟩, ⟨inN 14 (by simp [N16]), by rw [F'.bp.1.ren]; exact G.g14⟩, ⟨inN 15 (by simp [N16]), by rw [F'.l15.ren r11]; exact G.g15⟩, ⟨inN 16 (by simp [N16]), by rw [F'.l16.ren r11]; exact G.g16⟩,
      ⟨inN 17 (by simp [N16]), e17⟩, ⟨inN 18 (by simp [N16]), e18⟩, ⟨inN 19 (by simp [N16]), G.g19⟩, ⟨inN 20 (by simp [N16]), G.g20⟩, trivial⟩
    (fun b hb c hc hh => kap_inj (big q10) (big q13) (big q14) (big q15) (big q16) nd (N16_lt hb) (N16_lt hc) hh)
    h (T0_names hl0 hl1 to lk th i hq) hold' (fun b hb => (kin b).imp (fun h => by rw [h]; exact hb) id) (T0_names hl0 hl1 to lk th i' hq') (by rw [T0_kap hl0 hl1 (hq := hq')]; exact hts)
  exact ⟨s', π', hs, S', rfl, rfl, rfl, rfl, F', ha⟩
end
/-! ### the pieces of the law's loop but the program's step -/
theorem aSt : isAggA Tryz.prog 47 = some true := by kernel_rfl
theorem sSt : sizeA Tryz.prog 47 = some 4 := by kernel_rfl
structure RwL (b : Nat) (l : AV) (F : List AV) (ms : MS) : Prop where
  nm : L34 l
  na : junkA = junkOf l ∧ junkable l = true
  len : ∀ s, lenA Tryz.prog s 22 l = some (.int .i64 (Int.ofNat ms.length))
  idx : ∀ i, i < ms.length → indexAddrA Tryz.prog 22 l (.int .i64 (Int.ofNat i)) = some (.ptr b (i * 4))
  row : ∃ r, F = rowsOf wc (ms ++ r)
  pos : ∀ x ∈ ms, 0 ≤ x.1.1 ∧ x.2 < 18446744073709551616
theorem RwL.fz {b : Nat} {l : AV} {F : List AV} {ms : MS} (h : RwL b l F ms) : namess (fun _ => false) F = true := by obtain ⟨r, e⟩ := h.row; rw [e]; exact rows_names _ _
noncomputable def cLp : Code := loopAt Tryz.prog 3 0
noncomputable def cA : Code := sL cLp
noncomputable def cI : Code := bIn (sL (sR cLp))
noncomputable def cB1 : Code := sL cI
noncomputable def cB2 : Code := sL (sR cI)
noncomputable def cB3 : Code := sR (sR cI)
noncomputable def cR8 : Code := sR (sR cLp)
theorem kap_id (b : Nat) : kap 10 13 14 15 16 b = b := by
  rcases kap_cases 10 13 14 15 16 b with u | u | u | u | u | u
  · exact u.1
  all_goals rw [u.2, u.1]
theorem kap_fun : kap 10 13 14 15 16 = fun b => b := funext kap_id
section
variable {S : ST} {to : Nat} {lk th tt : Int} {F3 F4 : List AV} {s : AS} {π : Nat → Nat} {i : Nat} {l0 l1 : AV} {q : AV × AV × AV} {bt : MS}
theorem Lies.same {h1 : AH} {n1 : Nat} (hg : h1.bs = S.H to lk th tt ++ frz (FC F3 F4)) : Lies S lk tt to th ⟨h1, n1⟩ (kap 10 13 14 15 16) := by
  obtain ⟨bs, l, ec, wr⟩ := h1
  have hg : bs = _ := hg
  subst hg
  rw [kap_fun]
  exact ⟨rfl, rfl, rfl, rfl, rfl, rfl, by rw [ren_id, ren_id]; rfl, by rw [ren_id]; rfl, rfl, rfl, rfl, rfl, rfl, rfl, rfl, rfl⟩
theorem ST.F.olds (F : S.F) {s1 : AS} (k10 : s1.get 10 = some S.oL) (k13 : s1.get 13 = some S.o13) (k14 : s1.get 14 = some S.o14) (k15 : s1.get 15 = some S.o15) (k16 : s1.get 16 = some S.o16) (new : List Nat) : ∀ b ∈ [10, 13, 14, 15, 16], ((objAt s1 b).rw = true ∨ objAt s1 b = .dead) ∧ (objAt s1 b).names (pN 21 new) = true := by
  have e : ∀ {b : Nat} {o : AObj}, s1.get b = some o → objAt s1 b = o := fun h => by simp [objAt, h]
  intro b hb
  simp only [List.mem_cons, List.not_mem_nil, or_false] at hb
  rcases hb with rfl | rfl | rfl | rfl | rfl
  · rw [e k10]; exact ⟨.inl F.row.free.1, F.row.free.nm _⟩
  · rw [e k13]; exact ⟨.inl F.l13.1, F.l13.nm rfl⟩
  · rw [e k14]; exact ⟨.inl F.bp.1.1, F.bp.1.nm _⟩
  · rw [e k15]; exact ⟨.inl F.l15.1, F.l15.nm rfl⟩
  · rw [e k16]; exact ⟨.inl F.l16.1, F.l16.nm rfl⟩
theorem stepI {Cd : Code} {e : AExit} {ts1 : List AV} {h1 : AH} {n1 : Nat} {i' : Nat} (F : S.F) (h3 : namess (fun _ => false) F3 = true) (h4 : namess (fun _ => false) F4 = true) (A : At Tryz.prog (S.H to lk th tt) (FC F3 F4) s π)
    (h : Sound Tryz.prog (.code Cd (T0 l0 l1 to lk th i q) (canF (S.H to lk th tt) (FC F3 F4) 21 21)) ⟨e, ts1, ⟨h1, n1⟩⟩) (hl0 : L34 l0) (hl1 : L34 l1) (hq : Cl q) (hts : seesT (fun b => b) (fun _ => true) (T0 l0 l1 to lk th i' q) ts1) (hg : h1.bs = S.H to lk th tt ++ frz (FC F3 F4)) :
    ∃ s' π', Sound Tryz.prog (.code Cd (rens π (T0 l0 l1 to lk th i q)) s) ⟨e, rens π' (T0 l0 l1 to lk th i' q), s'⟩ ∧ InvF S.φx S.mx S.φy S.mr to lk th tt F3 F4 s' π' := by
  have gt : ∀ b, AS.get ⟨h1, n1⟩ b = getB (S.H to lk th tt ++ frz (FC F3 F4)) b := fun b => by rw [← hg]; rfl
  exact stepF F h3 h4 A h hl0 hl1 hq hq hts [] List.nodup_nil 10 13 14 15 16 (.inl rfl) (.inl rfl) (.inl rfl) (.inl rfl) (.inl rfl) (by decide) (fun b hb => by cases hb) (F.olds (by rw [gt]; rfl) (by rw [gt]; rfl) (by rw [gt]; rfl) (by rw [gt]; rfl) (by rw [gt]; rfl) []) F (Lies.same hg)
theorem at_go (F : S.F) (h3 : namess (fun _ => false) F3 = true) (h4 : namess (fun _ => false) F4 = true) (A : At Tryz.prog (S.H to lk th tt) (FC F3 F4) s π) (hl0 : L34 l0) (hl1 : L34 l1) (hq : Cl q) (hi : i < 500) (hy : S.φy.ln ≠ 0) : ∃ s' π', Sound Tryz.prog (.code cA (rens π (T0 l0 l1 to lk th i q)) s) ⟨.normal, rens π' (T0 l0 l1 to lk th i q), s'⟩ ∧ InvF S.φx S.mx S.φy S.mr to lk th tt F3 F4 s' π' := by
  have q1 : decide (Int.ofNat i < 500) = true := decide_eq_true (by simp only [Int.ofNat_eq_natCast]; omega)
  have q2 : decide (Int.ofNat S.φy.ln > 0) = true := decide_eq_true (by simp only [Int.ofNat_eq_natCast]; omega)
  exact stepI F h3 h4 A (runX_sound mixed none_sound (fl_go l0 l1 to i 0 0 lk th 0 0 0 q.1 q.2.1 q.2.2 (.cells false (S.mx.C (.map 8))) .dead (mapO S.mx.ms) .dead (.cells false (S.mr.C (LV S.mr.ms 10))) .dead S.oL .dead (.cells false (S.X lk)) .dead (.cells false (S.Y lk)) .dead S.o13 .dead S.o14 .dead S.o15 .dead S.o16 .dead (.cells false S.φx.Fx) .dead .dead (.cells false (S.φx.Gx tt)) .dead (.cells false (S.φy.Gy tt)) .dead .dead .dead .dead F3 F4 S.φy.ln S.φy.en 0 (.func 0) [] [] undefA undefA undefA undefA undefA undefA undefA undefA undefA undefA) ⟨by rw [q1]; rfl, by rw [q2]; rfl, trivial⟩) hl0 hl1 hq (by unfold T0 TT; repeat (first | exact rfl | refine ⟨_, _, rfl, ?_, ?_⟩ | exact see_same _ | exact .inl ⟨rfl, rfl⟩)) rfl
theorem at_end (F : S.F) (h3 : namess (fun _ => false) F3 = true) (h4 : namess (fun _ => false) F4 = true) (A : At Tryz.prog (S.H to lk th tt) (FC F3 F4) s π) (hl0 : L34 l0) (hl1 : L34 l1) (hq : Cl q) (hi : i < 500) (hy : S.φy.ln = 0) : ∃ s' π', Sound Tryz.prog (.code cA (rens π (T0 l0 l1 to lk th i q)) s) ⟨.exit 0, rens π' (T0 l0 l1 to lk th i q), s'⟩ ∧ InvF S.φx S.mx S.φy S.mr to lk th tt F3 F4 s' π' := by
  have q1 : decide (Int.ofNat i < 500) = true := decide_eq_true (by simp only [Int.ofNat_eq_natCast]; omega)
  have q2 : decide (Int.ofNat S.φy.ln > 0) = false := decide_eq_false (by simp only [Int.ofNat_eq_natCast]; omega)
  exact stepI F h3 h4 A (runX_sound mixed none_sound (fl_end l0 l1 to i 0 0 lk th 0 0 0 q.1 q.2.1 q.2.2 (.cells false (S.mx.C (.map 8))) .dead (mapO S.mx.ms) .dead (.cells false (S.mr.C (LV S.mr.ms 10))) .dead S.oL .dead (.cells false (S.X lk)) .dead (.cells false (S.Y lk)) .dead S.o13 .dead S.o14 .dead S.o15 .dead S.o16 .dead (.cells false S.φx.Fx) .dead .dead (.cells false (S.φx.Gx tt)) .dead (.cells false (S.φy.Gy tt)) .dead .dead .dead .dead F3 F4 S.φy.ln S.φy.en 0 (.func 0) [] [] undefA undefA undefA undefA undefA undefA undefA undefA undefA undefA) ⟨by rw [q1]; rfl, by rw [q2]; rfl, trivial⟩) hl0 hl1 hq (by unfold T0 TT; repeat (first | exact rfl | refine ⟨_, _, rfl, ?_, ?_⟩ | exact see_same _ | exact .inl ⟨rfl, rfl⟩)) rfl
theorem at_r8 (F : S.F) (h3 : namess (fun _ => false) F3 = true) (h4 : namess (fun _ => false) F4 = true) (A : At Tryz.prog (S.H to lk th tt) (FC F3 F4) s π) (hl0 : L34 l0) (hl1 : L34 l1) (hq : Cl q) (hi : i < 500) : ∃ s' π', Sound Tryz.prog (.code cR8 (rens π (T0 l0 l1 to lk th i q)) s) ⟨.normal, rens π' (T0 l0 l1 to lk th (i + 1) q), s'⟩ ∧ InvF S.φx S.mx S.φy S.mr to lk th tt F3 F4 s' π' := by
  exact stepI F h3 h4 A (runX_sound mixed none_sound (fr8 l0 l1 to i 0 0 lk th 0 0 0 q.1 q.2.1 q.2.2 (.cells false (S.mx.C (.map 8))) .dead (mapO S.mx.ms) .dead (.cells false (S.mr.C (LV S.mr.ms 10))) .dead S.oL .dead (.cells false (S.X lk)) .dead (.cells false (S.Y lk)) .dead S.o13 .dead S.o14 .dead S.o15 .dead S.o16 .dead (.cells false S.φx.Fx) .dead .dead (.cells false (S.φx.Gx tt)) .dead (.cells false (S.φy.Gy tt)) .dead .dead .dead .dead F3 F4 S.φy.ln S.φy.en 0 (.func 0) [] [] undefA undefA undefA undefA undefA undefA undefA undefA undefA undefA) ⟨by show some (AV.int .i64 (IntKind.i64.wrap (Int.ofNat (i + 1)))) = _; rw [i64_wrap (by simp only [Int.ofNat_eq_natCast]; omega) (by simp only [Int.ofNat_eq_natCast]; omega)], trivial⟩) hl0 hl1 hq (by unfold T0 TT; repeat (first | exact rfl | refine ⟨_, _, rfl, ?_, ?_⟩ | exact see_same _ | exact .inl ⟨rfl, rfl⟩)) rfl
theorem at_b1n (F : S.F) (h3 : namess (fun _ => false) F3 = true) (h4 : namess (fun _ => false) F4 = true) (A : At Tryz.prog (S.H to lk th tt) (FC F3 F4) s π) (hl0 : L34 l0) (hl1 : L34 l1) (hq : Cl q) (W : RwL 4 l1 F4 bt) (hi : ¬ i < bt.length) : ∃ s' π', Sound Tryz.prog (.code cB1 (rens π (T0 l0 l1 to lk th i q)) s) ⟨.normal, rens π' (T0 l0 l1 to lk th i q), s'⟩ ∧ InvF S.φx S.mx S.φy S.mr to lk th tt F3 F4 s' π' := by
  have q2 : decide (Int.ofNat i < Int.ofNat bt.length) = false := decide_eq_false (by simp only [Int.ofNat_eq_natCast]; omega)
  exact stepI F h3 h4 A (runX_sound mixed none_sound (fb1_n l0 l1 to i bt.length 0 lk th 0 0 0 q.1 q.2.1 q.2.2 (.cells false (S.mx.C (.map 8))) .dead (mapO S.mx.ms) .dead (.cells false (S.mr.C (LV S.mr.ms 10))) .dead S.oL .dead (.cells false (S.X lk)) .dead (.cells false (S.Y lk)) .dead S.o13 .dead S.o14 .dead S.o15 .dead S.o16 .dead (.cells false S.φx.Fx) .dead .dead (.cells false (S.φx.Gx tt)) .dead (.cells false (S.φy.Gy tt)) .dead .dead .dead .dead F3 F4 S.φy.ln S.φy.en 0 (.func 0) [] [] undefA undefA undefA undefA undefA undefA undefA undefA undefA undefA) ⟨W.len _, by rw [q2]; rfl, trivial⟩) hl0 hl1 hq (by unfold T0 TT; repeat (first | exact rfl | refine ⟨_, _, rfl, ?_, ?_⟩ | exact see_same _ | exact .inl W.na | exact .inl ⟨rfl, rfl⟩)) rfl
theorem Row2.cases {ms : MS} {lv : AV} {oL o2 : AObj} (h : Row2 ms 10 21 lv oL o2) : ∃ k10 o, (k10 = 10 ∨ k10 = 21) ∧ lv = LV ms k10 ∧ RO ms o ∧ ((k10 = 10 ∧ oL = o) ∨ (k10 = 21 ∧ o2 = o)) := by
  rcases h with ⟨e, h1, _⟩ | ⟨_, e, _, h1⟩
  · exact ⟨10, _, .inl rfl, e, h1, .inl ⟨rfl, rfl⟩⟩
  · exact ⟨21, _, .inr rfl, e, h1, .inr ⟨rfl, rfl⟩⟩
theorem WX_nm {σ : SS} {n13 : Nat} {bpx : AV} {O : Nat → AObj} (h : WX σ n13 bpx O) {π : Nat → Nat} (p13 : π n13 = n13) : bpx.ren π = bpx := by
  unfold WX at h
  split at h
  · rw [h.1]; show AV.ptr (π n13) 0 = _; rw [p13]
  · rcases h with ⟨e, _⟩ | ⟨_, e, _⟩ <;> rw [e]
    · rfl
    · show AV.ptr (π n13) 0 = _; rw [p13]
theorem Bp_nm {σ : SS} {bp : AV} {o14 : AObj} (h : Bp0 σ bp o14) {π : Nat → Nat} (p : π 14 = 14) : bp.ren π = bp := by
  rcases h.2 with ⟨e, _⟩ | ⟨e, _⟩ <;> rw [e]
  · rfl
  · show AV.ptr (π 14) 0 = _; rw [p]
theorem at_b1s (F : S.F) (h3 : namess (fun _ => false) F3 = true) (h4 : namess (fun _ => false) F4 = true) (A : At Tryz.prog (S.H to lk th tt) (FC F3 F4) s π) (hl0 : L34 l0) (hl1 : L34 l1) (hq : Cl q) (hm : S.mx = S.mr) (W : RwL 4 l1 F4 bt) {z : A3 × Nat} (hz : bt[i]? = some z) (hl : S.mr.ms.length < 16776000) : ∃ s' π', Sound Tryz.prog (.code cB1 (rens π (T0 l0 l1 to lk th i q)) s) ⟨.normal, rens π' (T0 l0 l1 to lk th i (.agg [junkA, junkA], .agg [junkA, junkA, junkA, junkA], q.2.2)), s'⟩ ∧ InvF S.φx (S.mr.store z.1 z.2) S.φy (S.mr.store z.1 z.2) to lk th tt F3 F4 s' π' := by
  have hi : i < bt.length := (List.getElem?_eq_some_iff.1 hz).1
  have hp := W.pos z (List.mem_of_getElem? hz)
  obtain ⟨rw_, hrw⟩ := W.row
  have hz' : (bt ++ rw_)[i]? = some z := by rw [List.getElem?_append_left hi]; exact hz
  obtain ⟨lv, oL', pA, hr, hS⟩ := S_up F.row hl z.1 hp.1 z.2
  have q2 : decide (Int.ofNat i < Int.ofNat bt.length) = true := decide_eq_true (by simp only [Int.ofNat_eq_natCast]; omega)
  have hx := runX_sound mixed none_sound (fb1_s l0 l1 to i bt.length z.2 lk th z.1.1 z.1.2.1 z.1.2.2 q.1 q.2.1 q.2.2 (.cells false (S.mx.C (.map 8))) (.cells false ((S.mr.store z.1 z.2).C (.map 8))) (mapO S.mx.ms) (mapO (S.mr.store z.1 z.2).ms) (.cells false (S.mr.C (LV S.mr.ms 10))) (.cells false ((S.mr.store z.1 z.2).C lv)) S.oL oL' (.cells false (S.X lk)) .dead (.cells false (S.Y lk)) .dead S.o13 .dead S.o14 .dead S.o15 .dead S.o16 .dead (.cells false S.φx.Fx) .dead .dead (.cells false (S.φx.Gx tt)) .dead (.cells false (S.φy.Gy tt)) .dead pA .dead .dead F3 F4 S.φy.ln S.φy.en 0 (.func 0) [] [] undefA undefA undefA undefA undefA undefA undefA undefA undefA undefA) ⟨W.len _, by rw [q2]; rfl, W.idx i hi, ld_row (f := wc) (n := 4) (fun _ => rfl) aSt sSt (by rw [hrw]; rfl) (hz' : (bt ++ rw_)[i]? = some z), hS _ rfl (by rw [← hm]; rfl) (by rw [← hm]; rfl) rfl rfl, trivial⟩
  have hpA := hr.o2
  have hL := hr.o1
  obtain ⟨k10, o, q10, rfl, hro, hk⟩ := hr.cases
  have hnew : ∀ (h1 : AS), h1.get 21 = some pA → ∀ b ∈ [21], 21 ≤ b ∧ (objAt h1 b).rw = true ∧ (objAt h1 b).names (pN 21 [21]) = true := fun h1 e b hb => by
    rcases List.mem_singleton.1 hb with rfl
    rw [show objAt h1 21 = pA by simp [objAt, e]]
    exact ⟨Nat.le_refl _, hpA.1, hpA.nm _⟩
  have hold : ∀ (s1 : AS), s1.get 10 = some oL' → s1.get 13 = some S.o13 → s1.get 14 = some S.o14 → s1.get 15 = some S.o15 → s1.get 16 = some S.o16 → ∀ b ∈ [10, 13, 14, 15, 16], ((objAt s1 b).rw = true ∨ objAt s1 b = .dead) ∧ (objAt s1 b).names (pN 21 [21]) = true := fun s1 k10 k13 k14 k15 k16 b hb => by
    have e : ∀ {b : Nat} {o : AObj}, s1.get b = some o → objAt s1 b = o := fun h => by simp [objAt, h]
    simp only [List.mem_cons, List.not_mem_nil, or_false] at hb
    rcases hb with rfl | rfl | rfl | rfl | rfl
    · rw [e k10]; exact ⟨hL.1, hL.2 _⟩
    · rw [e k13]; exact ⟨.inl F.l13.1, F.l13.nm rfl⟩
    · rw [e k14]; exact ⟨.inl F.bp.1.1, F.bp.1.nm _⟩
    · rw [e k15]; exact ⟨.inl F.l15.1, F.l15.nm rfl⟩
    · rw [e k16]; exact ⟨.inl F.l16.1, F.l16.nm rfl⟩
  have kk : ∀ {b : Nat}, b ≠ 10 → kap k10 13 14 15 16 b = b := fun {b} hb => by
    rcases kap_cases k10 13 14 15 16 b with u | u | u | u | u | u
    · exact u.1
    · exact absurd u.1 hb
    all_goals rw [u.2, u.1]
  exact stepF F h3 h4 A hx hl0 hl1 hq (S' := { S with mx := S.mr.store z.1 z.2, mr := S.mr.store z.1 z.2, oL := o }) ⟨rfl, rfl, hq.2.2⟩ (by unfold T0 TT; repeat (first | exact rfl | refine ⟨_, _, rfl, ?_, ?_⟩ | exact see_same _ | exact .inl W.na | exact .inl ⟨rfl, rfl⟩)) [21] (by decide) k10 13 14 15 16 (q10.imp id fun h => by rw [h]; simp) (.inl rfl) (.inl rfl) (.inl rfl) (.inl rfl) (by rcases q10 with rfl | rfl <;> decide) (hnew _ rfl) (hold _ rfl rfl rfl rfl rfl) ⟨hro, F.l13, F.l15, F.l16, F.xs, F.bp⟩
    ⟨rfl, rfl, rfl, rfl, rfl, by rcases hk with ⟨rfl, rfl⟩ | ⟨rfl, rfl⟩ <;> rfl, by rw [NX_ren F.xs.nx _ (kk (by decide)) (kk (by decide)) (kk (by decide)), WX_nm F.xs.wx (kk (by decide))]; rfl, by rw [Bp_nm F.bp (kk (by decide))]; rfl, rfl, rfl, rfl, rfl, rfl, rfl, rfl, rfl⟩
end
/-! ### the pieces of the law's loop: the steps of both -/
theorem Bp.cases {σ : SS} {bp' : AV} {o14' pC : AObj} (h : Bp σ 22 bp' o14' pC) : ∃ k14 bp0 o, (k14 = 14 ∨ k14 = 22) ∧ Bp0 σ bp0 o ∧ (∀ π : Nat → Nat, π 14 = k14 → bp0.ren π = bp') ∧ ((k14 = 14 ∧ o14' = o) ∨ (k14 = 22 ∧ pC = o)) := by
  obtain ⟨h1, h2, h3⟩ := h
  rcases h3 with ⟨e, h⟩ | ⟨e, h⟩ | ⟨e, h⟩
  · exact ⟨14, .nilPtr, o14', .inl rfl, ⟨h1, .inl ⟨rfl, h⟩⟩, fun π _ => by rw [e]; rfl, .inl ⟨rfl, rfl⟩⟩
  · exact ⟨14, .ptr 14 0, o14', .inl rfl, ⟨h1, .inr ⟨rfl, h⟩⟩, fun π hp => by rw [e]; show AV.ptr (π 14) 0 = _; rw [hp], .inl ⟨rfl, rfl⟩⟩
  · exact ⟨22, .ptr 14 0, pC, .inr rfl, ⟨h2, .inr ⟨rfl, h⟩⟩, fun π hp => by rw [e]; show AV.ptr (π 14) 0 = _; rw [hp], .inr ⟨rfl, rfl⟩⟩
theorem kap_14 (a b c d e : Nat) : kap a b c d e 14 = c := rfl
section
variable {S : ST} {to : Nat} {lk th tt : Int} {F3 F4 : List AV} {s : AS} {π : Nat → Nat} {i : Nat} {l0 l1 : AV} {q : AV × AV × AV}
theorem at_b2 (F : S.F) (h3 : namess (fun _ => false) F3 = true) (h4 : namess (fun _ => false) F4 = true) (A : At Tryz.prog (S.H to lk th tt) (FC F3 F4) s π) (hl0 : L34 l0) (hl1 : L34 l1) (hq : Cl q) (hO : S.φy.Ok lk) (hl : S.mr.ms.length < 16776000) (hmv : ∀ a, getW S.mr.ms a < 18446744073709551616) : ∃ s' π', Sound Tryz.prog (.code cB2 (rens π (T0 l0 l1 to lk th i q)) s) ⟨.normal, rens π' (T0 l0 l1 to lk th i q), s'⟩ ∧ InvF S.φx S.mx (S.φy.step tt lk S.mr).1 (S.φy.step tt lk S.mr).2 to lk th tt F3 F4 s' π' := by
  obtain ⟨lv, oL', pA, bp', o14', pC, h2, hb, hS⟩ := FY_all (th := tt) F.row F.bp hO hl hmv
  generalize S.φy.step tt lk S.mr = r at *
  have hx := runX_sound mixed none_sound (fb2 l0 l1 to i 0 0 lk th 0 0 0 q.1 q.2.1 q.2.2 (.cells false (S.mx.C (.map 8))) .dead (mapO S.mx.ms) .dead (.cells false (S.mr.C (LV S.mr.ms 10))) (.cells false (r.2.C lv)) S.oL oL' (.cells false (S.X lk)) .dead (.cells false (S.Y lk)) (.cells false (r.1.σ.Y 2 lk bp')) S.o13 .dead S.o14 o14' S.o15 .dead S.o16 .dead (.cells false S.φx.Fx) .dead (.cells false r.1.Fy) (.cells false (S.φx.Gx tt)) .dead (.cells false (S.φy.Gy tt)) (.cells false (r.1.Gy tt)) pA pC .dead F3 F4 S.φy.ln S.φy.en 0 (.func 0) [] [] undefA undefA undefA undefA undefA undefA undefA undefA undefA undefA) ⟨hS _ rfl rfl rfl rfl rfl rfl rfl (fun x hx => by
    simp only [GF, List.mem_cons, List.not_mem_nil, or_false] at hx
    rcases hx with rfl | rfl | rfl <;> exact ⟨true, rfl⟩), trivial⟩
  have hpA := h2.o2
  have hL := h2.o1
  have fr14 := hb.1
  have frC := hb.2.1
  obtain ⟨k10, o, q10, rfl, hro, hk⟩ := h2.cases
  obtain ⟨k14, bp0, o14n, q14, hb0, hbr, hk14⟩ := hb.cases
  have ob : ∀ {s1 : AS} {b : Nat} {o : AObj}, s1.get b = some o → objAt s1 b = o := fun h => by simp [objAt, h]
  have hnew : ∀ (h1 : AS), h1.get 21 = some pA → h1.get 22 = some pC → ∀ b ∈ [21, 22], 21 ≤ b ∧ (objAt h1 b).rw = true ∧ (objAt h1 b).names (pN 21 [21, 22]) = true := fun h1 e e2 b hb => by
    simp only [List.mem_cons, List.not_mem_nil, or_false] at hb
    rcases hb with rfl | rfl
    · rw [ob e]; exact ⟨Nat.le_refl _, hpA.1, hpA.nm _⟩
    · rw [ob e2]; exact ⟨by omega, frC.1, frC.nm _⟩
  have hold : ∀ (s1 : AS), s1.get 10 = some oL' → s1.get 13 = some S.o13 → s1.get 14 = some o14' → s1.get 15 = some S.o15 → s1.get 16 = some S.o16 → ∀ b ∈ [10, 13, 14, 15, 16], ((objAt s1 b).rw = true ∨ objAt s1 b = .dead) ∧ (objAt s1 b).names (pN 21 [21, 22]) = true := fun s1 k10 k13 k14 k15 k16 b hb => by
    simp only [List.mem_cons, List.not_mem_nil, or_false] at hb
    rcases hb with rfl | rfl | rfl | rfl | rfl
    · rw [ob k10]; exact ⟨hL.1, hL.2 _⟩
    · rw [ob k13]; exact ⟨.inl F.l13.1, F.l13.nm rfl⟩
    · rw [ob k14]; exact ⟨.inl fr14.1, fr14.nm _⟩
    · rw [ob k15]; exact ⟨.inl F.l15.1, F.l15.nm rfl⟩
    · rw [ob k16]; exact ⟨.inl F.l16.1, F.l16.nm rfl⟩
  have kk : ∀ {b : Nat}, b ≠ 10 → b ≠ 14 → kap k10 13 k14 15 16 b = b := fun {b} hb hc => by
    rcases kap_cases k10 13 k14 15 16 b with u | u | u | u | u | u
    · exact u.1
    · exact absurd u.1 hb
    · rw [u.2, u.1]
    · exact absurd u.1 hc
    · rw [u.2, u.1]
    · rw [u.2, u.1]
  exact stepF F h3 h4 A hx hl0 hl1 hq (S' := { S with φy := r.1, mr := r.2, oL := o, bp := bp0, o14 := o14n }) hq (by unfold T0 TT; repeat (first | exact rfl | refine ⟨_, _, rfl, ?_, ?_⟩ | exact see_same _ | exact .inl ⟨rfl, rfl⟩)) [21, 22] (by decide) k10 13 k14 15 16 (q10.imp id fun h => by rw [h]; simp) (.inl rfl) (q14.imp id fun h => by rw [h]; simp) (.inl rfl) (.inl rfl) (by rcases q10 with rfl | rfl <;> rcases q14 with rfl | rfl <;> decide) (hnew _ rfl rfl) (hold _ rfl rfl rfl rfl rfl) ⟨hro, F.l13, F.l15, F.l16, F.xs, hb0⟩
    ⟨rfl, rfl, rfl, rfl, rfl, by rcases hk with ⟨rfl, rfl⟩ | ⟨rfl, rfl⟩ <;> rfl, by rw [NX_ren F.xs.nx _ (kk (by decide) (by decide)) (kk (by decide) (by decide)) (kk (by decide) (by decide)), WX_nm F.xs.wx (kk (by decide) (by decide))]; rfl, by rw [hbr _ (kap_14 ..)]; rfl, rfl, by rcases hk14 with ⟨rfl, rfl⟩ | ⟨rfl, rfl⟩ <;> rfl, rfl, rfl, rfl, rfl, rfl, rfl⟩
theorem fnF_ne {n : Nat} (h : n ≠ 0) : ∃ f a, fnF n = .func f a [] := by
  match n with
  | 0 => exact absurd rfl h
  | 1 => exact ⟨_, _, rfl⟩
  | 2 => exact ⟨_, _, rfl⟩
  | n + 3 => exact ⟨_, _, rfl⟩
theorem at_b3 (F : S.F) (h3 : namess (fun _ => false) F3 = true) (h4 : namess (fun _ => false) F4 = true) (A : At Tryz.prog (S.H to lk th tt) (FC F3 F4) s π) (hl0 : L34 l0) (hl1 : L34 l1) (hq : Cl q) (hO : S.φx.Ok lk) (hmv : ∀ a, getW S.mx.ms a < 18446744073709551616) (hstep : S.φx.step tt lk S.mx = (S.φy, S.mr)) (hen : S.φy.ln ≠ 0 → S.φy.en = 4) : ∃ s' π', Sound Tryz.prog (.code cB3 (rens π (T0 l0 l1 to lk th i q)) s) ⟨.normal, rens π' (T0 l0 l1 to lk th i (q.1, q.2.1, .agg [junkA, junkA])), s'⟩ ∧ InvF S.φy S.mr S.φy S.mr to lk th tt F3 F4 s' π' := by
  obtain ⟨nxt', xa', xb', xc', xn', bpx', k13, k15, k16, o13', o15', o16', p1, p2, p3, q13, q15, q16, hne, m13, m15, m16, mp1, mp2, mp3, hX, hS⟩ := FX_all (th := tt) F.l13 F.l15 F.l16 F.xs hO hmv
  rw [hstep] at hX hS
  obtain ⟨nxt0, bpx0, hX0, hren⟩ := hX.canon
  have gg : ∀ (s1 : AS), s1.get 13 = some o13' → s1.get 15 = some o15' → s1.get 16 = some o16' → s1.get 21 = some p1 → s1.get 22 = some p2 → s1.get 23 = some p3 → s1.get k13 = some (O21 o13' o15' o16' p1 p2 p3 k13) ∧ s1.get k15 = some (O21 o13' o15' o16' p1 p2 p3 k15) ∧ s1.get k16 = some (O21 o13' o15' o16' p1 p2 p3 k16) := fun s1 e13 e15 e16 e17 e18 e19 => by
    refine ⟨?_, ?_, ?_⟩
    · rcases q13 with rfl | rfl <;> assumption
    · rcases q15 with rfl | rfl | rfl <;> assumption
    · rcases q16 with rfl | rfl <;> assumption
  have g13 := fun s1 a b c d e f => (gg s1 a b c d e f).1
  have g15 := fun s1 a b c d e f => (gg s1 a b c d e f).2.1
  have g16 := fun s1 a b c d e f => (gg s1 a b c d e f).2.2
  have lx : ∀ n, Lx (O21 o13' o15' o16' p1 p2 p3 n) := fun n => by
    unfold O21
    repeat' split
    all_goals assumption
  have ob : ∀ {s1 : AS} {b : Nat} {o : AObj}, s1.get b = some o → objAt s1 b = o := fun h => by simp [objAt, h]
  have hnew : ∀ (h1 : AS), h1.get 21 = some p1 → h1.get 22 = some p2 → h1.get 23 = some p3 → ∀ b ∈ [21, 22, 23], 21 ≤ b ∧ (objAt h1 b).rw = true ∧ (objAt h1 b).names (pN 21 [21, 22, 23]) = true := fun h1 e e2 e3 b hb => by
    simp only [List.mem_cons, List.not_mem_nil, or_false] at hb
    rcases hb with rfl | rfl | rfl
    · rw [ob e]; exact ⟨by omega, mp1.1, mp1.nm rfl⟩
    · rw [ob e2]; exact ⟨by omega, mp2.1, mp2.nm rfl⟩
    · rw [ob e3]; exact ⟨by omega, mp3.1, mp3.nm rfl⟩
  have hold : ∀ (s1 : AS), s1.get 10 = some S.oL → s1.get 13 = some o13' → s1.get 14 = some S.o14 → s1.get 15 = some o15' → s1.get 16 = some o16' → ∀ b ∈ [10, 13, 14, 15, 16], ((objAt s1 b).rw = true ∨ objAt s1 b = .dead) ∧ (objAt s1 b).names (pN 21 [21, 22, 23]) = true := fun s1 k10 k13 k14 k15 k16 b hb => by
    simp only [List.mem_cons, List.not_mem_nil, or_false] at hb
    rcases hb with rfl | rfl | rfl | rfl | rfl
    · rw [ob k10]; exact ⟨.inl F.row.free.1, F.row.free.nm _⟩
    · rw [ob k13]; exact ⟨.inl m13.1, m13.nm rfl⟩
    · rw [ob k14]; exact ⟨.inl F.bp.1.1, F.bp.1.nm _⟩
    · rw [ob k15]; exact ⟨.inl m15.1, m15.nm rfl⟩
    · rw [ob k16]; exact ⟨.inl m16.1, m16.nm rfl⟩
  have nd : [10, k13, 14, k15, k16].Nodup := by
    simp only [List.nodup_cons, List.mem_cons, List.not_mem_nil, or_false, not_or, not_false_eq_true, List.nodup_nil, and_true]
    omega
  have i13 : k13 = 13 ∨ k13 ∈ [21, 22, 23] := q13.imp id fun h => by rw [h]; simp
  have i15 : k15 = 15 ∨ k15 ∈ [21, 22, 23] := q15.imp id fun h => by rcases h with h | h <;> rw [h] <;> simp
  have i16 : k16 = 16 ∨ k16 ∈ [21, 22, 23] := q16.imp id fun h => by rw [h]; simp
  have rr := hren (kap 10 k13 14 k15 k16) rfl rfl rfl rfl
  have ne2 : (S.φy.σ.wt != S.φy.σ.wt) = false := by simp
  have LVn : (LV S.mr.ms 10).names (fun b => Nat.blt b 32) = true := LV_names _ _ _ rfl
  have hw : ∀ S1 : AS, S1.get 11 = some (.cells false (S.φy.σ.X 2 lk nxt' xa' xb' xc' xn' bpx')) → S1.get 13 = some o13' → S1.get 15 = some o15' → S1.get 16 = some o16' → S1.get 21 = some p1 → S1.get 22 = some p2 → S1.get 23 = some p3 → Sound Tryz.prog (.call 17 [.ptr 11 0] S1) ⟨.ret, [.int .i64 S.φy.σ.wt], S1⟩ := fun S1 k11 a b c d e f => waits_at hX (by omega) (by omega) (by omega) (by omega) k11 (g13 S1 a b c d e f)
  have hs : ∀ S1 : AS, S1.get 7 = some (.cells false (S.mr.C (.map 8))) → S1.get 9 = some (.cells false (S.mr.C (LV S.mr.ms 10))) → Sound Tryz.prog (.call 14 [.agg [.ptr 7 0, .ptr 9 0]] S1) ⟨.ret, [.bool true], S1⟩ := fun S1 a b => same_at LVn a b
  by_cases h0 : S.φy.ln = 0
  · have d0 : decide (S.φy.ln = 0) = true := decide_eq_true h0
    have e0 : (Int.ofNat S.φy.ln == Int.ofNat 0) = true := by simp [h0]
    have ne1 : (Int.ofNat S.φy.en != Int.ofNat S.φy.en) = false := by simp
    have efx : S.φy.Fx = [.nilFunc, .int .i64 (Int.ofNat S.φy.en), .bool true, .ptr 19 0, .ptr 11 0] := by unfold FS.Fx; rw [h0]; rfl
    rw [efx] at hS
    rw [d0] at hS
    have hx := runX_sound mixed none_sound (fb3_y l0 l1 to i 0 0 lk th 0 0 0 q.1 q.2.1 q.2.2 (.cells false (S.mx.C (.map 8))) (.cells false (S.mr.C (.map 8))) (mapO S.mx.ms) (mapO S.mr.ms) (.cells false (S.mr.C (LV S.mr.ms 10))) .dead S.oL .dead (.cells false (S.X lk)) (.cells false (S.φy.σ.X 2 lk nxt' xa' xb' xc' xn' bpx')) (.cells false (S.Y lk)) .dead S.o13 o13' S.o14 .dead S.o15 o15' S.o16 o16' (.cells false S.φx.Fx) .dead .dead (.cells false (S.φx.Gx tt)) (.cells false (S.φy.Gx tt)) (.cells false (S.φy.Gy tt)) .dead p1 p2 p3 F3 F4 S.φy.ln S.φy.en S.φy.σ.wt (.func 0) [] [] (.int .u8 (Int.ofNat 2)) (.int .i64 lk) (.int .u64 (Int.ofNat S.φy.σ.w)) (.int .u8 (Int.ofNat S.φy.σ.a)) (.int .u8 (Int.ofNat S.φy.σ.b)) (.int .u8 (Int.ofNat S.φy.σ.c)) (.int .u64 (Int.ofNat S.φy.σ.n)) S.bp (.int .i64 (Int.ofNat S.φy.σ.ln)) (.int .i64 (Int.ofNat S.φy.σ.en))) ⟨by rw [e0]; rfl, hS _ rfl rfl rfl rfl rfl rfl rfl rfl rfl (fun x hx => by
    simp only [GF, List.mem_cons, List.not_mem_nil, or_false] at hx
    rcases hx with rfl | rfl | rfl <;> exact ⟨true, rfl⟩), by rw [e0]; rfl, by rw [ne1]; rfl, hw _ rfl rfl rfl rfl rfl rfl rfl, by rw [ne2]; rfl, hs _ rfl rfl, trivial⟩
    exact stepF F h3 h4 A hx hl0 hl1 hq (S' := { S with φx := S.φy, mx := S.mr, nxt := nxt0, xa := xa', xb := xb', xc := xc', xn := xn', bpx := bpx0, o13 := O21 o13' o15' o16' p1 p2 p3 k13, o15 := O21 o13' o15' o16' p1 p2 p3 k15, o16 := O21 o13' o15' o16' p1 p2 p3 k16 }) ⟨hq.1, hq.2.1, rfl⟩ (by unfold T0 TT; repeat (first | exact rfl | refine ⟨_, _, rfl, ?_, ?_⟩ | exact see_same _ | exact .inl ⟨rfl, rfl⟩)) [21, 22, 23] (by decide) 10 k13 14 k15 k16 (.inl rfl) i13 (.inl rfl) i15 i16 nd (hnew _ rfl rfl rfl) (hold _ rfl rfl rfl rfl rfl) ⟨F.row, lx _, lx _, lx _, hX0, F.bp⟩
      ⟨rfl, rfl, rfl, rfl, rfl, rfl, by rw [rr.1, rr.2]; rfl, by rw [Bp_nm F.bp (kap_14 ..)]; rfl, g13 _ rfl rfl rfl rfl rfl rfl, rfl, g15 _ rfl rfl rfl rfl rfl rfl, g16 _ rfl rfl rfl rfl rfl rfl, by rw [efx]; rfl, rfl, rfl, rfl⟩
  · have d0 : decide (S.φy.ln = 0) = false := decide_eq_false h0
    have e0 : (Int.ofNat S.φy.ln == Int.ofNat 0) = false := by simp [h0]
    have ne1 : (Int.ofNat 4 != Int.ofNat S.φy.en) = false := by rw [hen h0]; rfl
    obtain ⟨f, fa, hfn⟩ := fnF_ne h0
    have efx : S.φy.Fx = [.func f fa [], .int .i64 (Int.ofNat 0), .bool true, .ptr 19 0, .ptr 11 0] := by unfold FS.Fx; rw [hfn, if_neg h0]
    rw [efx] at hS
    rw [d0] at hS
    have hx := runX_sound mixed none_sound (fb3_n l0 l1 to i 0 0 lk th 0 0 0 q.1 q.2.1 q.2.2 (.cells false (S.mx.C (.map 8))) (.cells false (S.mr.C (.map 8))) (mapO S.mx.ms) (mapO S.mr.ms) (.cells false (S.mr.C (LV S.mr.ms 10))) .dead S.oL .dead (.cells false (S.X lk)) (.cells false (S.φy.σ.X 2 lk nxt' xa' xb' xc' xn' bpx')) (.cells false (S.Y lk)) .dead S.o13 o13' S.o14 .dead S.o15 o15' S.o16 o16' (.cells false S.φx.Fx) .dead .dead (.cells false (S.φx.Gx tt)) (.cells false (S.φy.Gx tt)) (.cells false (S.φy.Gy tt)) .dead p1 p2 p3 F3 F4 S.φy.ln S.φy.en S.φy.σ.wt f fa [] (.int .u8 (Int.ofNat 2)) (.int .i64 lk) (.int .u64 (Int.ofNat S.φy.σ.w)) (.int .u8 (Int.ofNat S.φy.σ.a)) (.int .u8 (Int.ofNat S.φy.σ.b)) (.int .u8 (Int.ofNat S.φy.σ.c)) (.int .u64 (Int.ofNat S.φy.σ.n)) S.bp (.int .i64 (Int.ofNat S.φy.σ.ln)) (.int .i64 (Int.ofNat S.φy.σ.en))) ⟨by rw [e0]; rfl, hS _ rfl rfl rfl rfl rfl rfl rfl rfl rfl (fun x hx => by
    simp only [GF, List.mem_cons, List.not_mem_nil, or_false] at hx
    rcases hx with rfl | rfl | rfl <;> exact ⟨true, rfl⟩), by rw [e0]; rfl, by rw [ne1]; rfl, hw _ rfl rfl rfl rfl rfl rfl rfl, by rw [ne2]; rfl, hs _ rfl rfl, trivial⟩
    exact stepF F h3 h4 A hx hl0 hl1 hq (S' := { S with φx := S.φy, mx := S.mr, nxt := nxt0, xa := xa', xb := xb', xc := xc', xn := xn', bpx := bpx0, o13 := O21 o13' o15' o16' p1 p2 p3 k13, o15 := O21 o13' o15' o16' p1 p2 p3 k15, o16 := O21 o13' o15' o16' p1 p2 p3 k16 }) ⟨hq.1, hq.2.1, rfl⟩ (by unfold T0 TT; repeat (first | exact rfl | refine ⟨_, _, rfl, ?_, ?_⟩ | exact see_same _ | exact .inl ⟨rfl, rfl⟩)) [21, 22, 23] (by decide) 10 k13 14 k15 k16 (.inl rfl) i13 (.inl rfl) i15 i16 nd (hnew _ rfl rfl rfl) (hold _ rfl rfl rfl rfl rfl) ⟨F.row, lx _, lx _, lx _, hX0, F.bp⟩
      ⟨rfl, rfl, rfl, rfl, rfl, rfl, by rw [rr.1, rr.2]; rfl, by rw [Bp_nm F.bp (kap_14 ..)]; rfl, g13 _ rfl rfl rfl rfl rfl rfl, rfl, g15 _ rfl rfl rfl rfl rfl rfl, g16 _ rfl rfl rfl rfl rfl rfl, by rw [efx]; rfl, rfl, rfl, rfl⟩
end
/-! ### the law's loop -/
section
variable {to : Nat} {lk th tt : Int} {l0 l1 : AV} {F3 F4 : List AV} {fs bt : MS} (W0 : RwL 3 l0 F3 fs) (W1 : RwL 4 l1 F4 bt)
include W0 W1
/-- A memory after what the law stores at turn i. -/
def putAt (bt : MS) (i : Nat) (m : PM) : PM := match bt[i]? with
  | some z => m.store z.1 z.2
  | none => m
omit W0 in
theorem putAt_ok {m : PM} {k : Nat} (h : m.Ok k) (i : Nat) : (putAt bt i m).Ok (k + 1) := by
  unfold putAt
  split
  · rename_i z hz
    exact h.store z.1 (W1.pos z (List.mem_of_getElem? hz)).2
  · exact h.mono (Nat.le_succ k)
theorem b1_all {q : AV × AV × AV} (hq : Cl q) {φx φy : FS} {m : PM} {s : AS} {π : Nat → Nat} {i k : Nat} (hI : InvF φx m φy m to lk th tt F3 F4 s π) (hm : m.Ok k) (hk : k < 16776000) :
    ∃ s' π' q', Cl q' ∧ Sound Tryz.prog (.code cB1 (rens π (T0 l0 l1 to lk th i q)) s) ⟨.normal, rens π' (T0 l0 l1 to lk th i q'), s'⟩ ∧ InvF φx (putAt bt i m) φy (putAt bt i m) to lk th tt F3 F4 s' π' := by
  obtain ⟨S, rfl, e2, rfl, e4, F, A⟩ := hI
  unfold putAt
  have := hm.len
  split
  · rename_i z hz
    obtain ⟨s', π', h1, h2⟩ := at_b1s F W0.fz W1.fz A W0.nm W1.nm hq (e2.trans e4.symm) W1 hz (by rw [e4]; omega)
    rw [e4] at h2
    exact ⟨s', π', (.agg [junkA, junkA], .agg [junkA, junkA, junkA, junkA], q.2.2), ⟨rfl, rfl, hq.2.2⟩, h1, h2⟩
  · rename_i hz
    obtain ⟨s', π', h1, h2⟩ := at_b1n F W0.fz W1.fz A W0.nm W1.nm hq W1 (by simpa using hz)
    rw [e2, e4] at h2
    exact ⟨s', π', _, hq, h1, h2⟩
theorem b2_all {q : AV × AV × AV} (hq : Cl q) {φx φy : FS} {mx mr : PM} {s : AS} {π : Nat → Nat} {i k : Nat} (hI : InvF φx mx φy mr to lk th tt F3 F4 s π) (hO : φy.Ok lk) (hm : mr.Ok k) (hk : k < 16776000) :
    ∃ s' π', Sound Tryz.prog (.code cB2 (rens π (T0 l0 l1 to lk th i q)) s) ⟨.normal, rens π' (T0 l0 l1 to lk th i q), s'⟩ ∧ InvF φx mx (φy.step tt lk mr).1 (φy.step tt lk mr).2 to lk th tt F3 F4 s' π' := by
  obtain ⟨S, rfl, rfl, rfl, rfl, F, A⟩ := hI
  have := hm.len
  exact at_b2 F W0.fz W1.fz A W0.nm W1.nm hq hO (by omega) hm.val
theorem b3_all {q : AV × AV × AV} (hq : Cl q) {φx φy : FS} {mx mr : PM} {s : AS} {π : Nat → Nat} {i k : Nat} (hI : InvF φx mx φy mr to lk th tt F3 F4 s π) (hO : φx.Ok lk) (hm : mx.Ok k) (hs : φx.step tt lk mx = (φy, mr)) (hen : φy.ln ≠ 0 → φy.en = 4) :
    ∃ s' π' q', Cl q' ∧ Sound Tryz.prog (.code cB3 (rens π (T0 l0 l1 to lk th i q)) s) ⟨.normal, rens π' (T0 l0 l1 to lk th i q'), s'⟩ ∧ InvF φy mr φy mr to lk th tt F3 F4 s' π' := by
  obtain ⟨S, rfl, rfl, rfl, rfl, F, A⟩ := hI
  obtain ⟨s', π', h1, h2⟩ := at_b3 F W0.fz W1.fz A W0.nm W1.nm hq hO hm.val hs hen
  exact ⟨s', π', (q.1, q.2.1, .agg [junkA, junkA]), ⟨hq.1, hq.2.1, rfl⟩, h1, h2⟩
theorem r8_all {q : AV × AV × AV} (hq : Cl q) {φx φy : FS} {mx mr : PM} {s : AS} {π : Nat → Nat} {i : Nat} (hI : InvF φx mx φy mr to lk th tt F3 F4 s π) (hi : i < 500) :
    ∃ s' π', Sound Tryz.prog (.code cR8 (rens π (T0 l0 l1 to lk th i q)) s) ⟨.normal, rens π' (T0 l0 l1 to lk th (i + 1) q), s'⟩ ∧ InvF φx mx φy mr to lk th tt F3 F4 s' π' := by
  obtain ⟨S, rfl, rfl, rfl, rfl, F, A⟩ := hI
  exact at_r8 F W0.fz W1.fz A W0.nm W1.nm hq hi
theorem a_all {q : AV × AV × AV} (hq : Cl q) {φx φy : FS} {mx mr : PM} {s : AS} {π : Nat → Nat} {i : Nat} (hI : InvF φx mx φy mr to lk th tt F3 F4 s π) (hi : i < 500) :
    ∃ s' π', Sound Tryz.prog (.code cA (rens π (T0 l0 l1 to lk th i q)) s) ⟨if φy.ln = 0 then .exit 0 else .normal, rens π' (T0 l0 l1 to lk th i q), s'⟩ ∧ InvF φx mx φy mr to lk th tt F3 F4 s' π' := by
  obtain ⟨S, rfl, rfl, rfl, rfl, F, A⟩ := hI
  split
  · rename_i h
    exact at_end F W0.fz W1.fz A W0.nm W1.nm hq hi h
  · rename_i h
    exact at_go F W0.fz W1.fz A W0.nm W1.nm hq hi h
omit W0 W1 in
theorem cLp_eq : cLp = .seq cA (.seq (.block 1 cI) cR8) := by kernel_rfl
omit W0 W1 in
theorem cI_eq : cI = .seq cB1 (.seq cB2 cB3) := by kernel_rfl
theorem law_loop (l0' : -9223372036854775808 ≤ lk) (l1' : lk ≤ 40) : ∀ (d i k : Nat) (φ : FS) (m : PM) (s : AS) (π : Nat → Nat) (q : AV × AV × AV), 500 - i = d → Cl q → i < 500 → (φ.ln ≠ 0 → φ.Ok lk ∧ φ.mu + i ≤ 468) → m.Ok k → k + 2 * (500 - i) < 16776000 → InvF φ m φ m to lk th tt F3 F4 s π →
    ∃ φ' m' i' s' π' q', φ'.ln = 0 ∧ Cl q' ∧ Sound Tryz.prog (.code (.loop cLp) (rens π (T0 l0 l1 to lk th i q)) s) ⟨.exit 0, rens π' (T0 l0 l1 to lk th i' q'), s'⟩ ∧ InvF φ' m' φ' m' to lk th tt F3 F4 s' π' := by
  intro d
  induction d with
  | zero => intro i k φ m s π q hd hq hi; omega
  | succ d ih =>
    intro i k φ m s π q hd hq hi hσ hm hk hI
    obtain ⟨s1, π1, hA, hI1⟩ := a_all W0 W1 hq (i := i) hI hi
    by_cases h0 : φ.ln = 0
    · rw [if_pos h0] at hA
      refine ⟨φ, m, i, s1, π1, q, h0, hq, loop_stop ?_ (by simp), hI1⟩
      rw [cLp_eq]
      exact seq_stop hA (by simp)
    · rw [if_neg h0] at hA
      obtain ⟨hO, hmu⟩ := hσ h0
      have hpos : 0 < φ.mu := by
        obtain ⟨ln, en, fl, fe, σ⟩ := φ
        obtain ⟨⟨k1, k2⟩, k3, k4, k5, k6, k7⟩ := hO
        simp only at k1 k2 k3 k4 k5 k6 k7
        have hln : ln = 1 ∨ ln = 2 ∨ ln = 3 := by omega
        rcases hln with rfl | rfl | rfl
        · show 0 < 468; omega
        · have := k4 (by omega)
          show 0 < 468 - fl
          omega
        · have := k7.ln
          show 0 < σ.mu
          unfold SS.mu
          split <;> omega
      obtain ⟨s2, π2, q2, hq2, hB1, hI2⟩ := b1_all W0 W1 hq (i := i) hI1 hm (by omega)
      have hm1 := putAt_ok W1 hm i
      obtain ⟨s3, π3, hB2, hI3⟩ := b2_all W0 W1 hq2 (i := i) hI2 hO hm1 (by omega)
      have hm2 := FS.step_mem (φ := φ) (th := tt) (lk := lk) hm1
      have hok := fun h => FS.step_ok (th := tt) hO l0' l1' hm1 h
      obtain ⟨s4, π4, q4, hq4, hB3, hI4⟩ := b3_all W0 W1 hq2 (i := i) hI3 hO hm1 rfl (fun h => (hok h).en)
      obtain ⟨s5, π5, hR, hI5⟩ := r8_all W0 W1 hq4 (i := i) hI4 hi
      have body : Sound Tryz.prog (.code cLp (rens π (T0 l0 l1 to lk th i q)) s) ⟨.normal, rens π5 (T0 l0 l1 to lk th (i + 1) q4), s5⟩ := by
        rw [cLp_eq, cI_eq]
        exact seq_next hA (seq_next (block_past (seq_next hB1 (seq_next hB2 hB3)) (by simp)) hR)
      obtain ⟨φ', m', i', s', π', q', e0, hq', hL, hI'⟩ := ih (i + 1) (k + 1 + 1) _ _ s5 π5 q4 (by omega) hq4 (by omega) (fun h => ⟨hok h, by have := FS.mu_step (th := tt) hO l0' l1' hm1 h; omega⟩) hm2 (by omega) hI5
      exact ⟨φ', m', i', s', π', q', e0, hq', loop_next body hL, hI'⟩
end
def G3 : List (Nat × List AV) := [(0, wfW), (1, wfB), (2, wfP)]
/-! ### lives -/
def saysYes : Option Res → Bool
  | some ⟨.ret, [.bool true], _⟩ => true
  | _ => false
theorem lives_run : saysYes (runH Tryz.prog none_ 1500 (.call 4 [] (startS Tryz.prog G3))) = true := by kernel_rfl
theorem lives_q : (Qst.pure G3 4 [] (.bool true)).ok Tryz.prog := by
  have h := lives_run
  cases hr : runH Tryz.prog none_ 1500 (.call 4 [] (startS Tryz.prog G3)) with
  | none => rw [hr] at h; cases h
  | some r =>
    rw [hr] at h
    obtain ⟨e, ts, s1⟩ := r
    unfold saysYes at h
    split at h
    · rename_i h1
      injection h1 with h1
      injection h1 with h1 h2 h3
      subst h1 h2
      exact fun s hs => Sound.pure (runH_sound mixed none_sound _ _ _ hr) rfl rfl rfl hs
    · cases h
end Go.Proofs.YtchekpapgfojhaaGreatDoor.ctlsFallback
