/- A step of a thread, wherever it lies. Conditions: those that each theorem names, and no others. -/
import Derived.Test.YtcnfblibfndepaaGreatDoorCover9
namespace Go.Mini
open Go Go.RowKit
section
variable {P : Program}
theorem keepC2 {f : FuncId} {fn : Func} {c : Code} {args ts vs : List AV} {s s' : AS} {e : AExit} (hf : P.funcs[f]? = some fn) (hb : fn.body = some c)
    (hx : Sound P (.code c (args ++ List.replicate (fn.ntmps - args.length) undefA) ⟨⟨s.h.bs, s.h.len, none, []⟩, s.nx⟩) ⟨e, ts, s'⟩) (he : e = .normal ∨ e = .ret) (hvs : resultsA P ts s' fn.results.toList = some vs) :
    Sound P (.call f args s) ⟨.ret, [oneOrTuple vs], ⟨⟨s'.h.bs, s'.h.len, none, olds s.nx s'.h.wr s.h.wr⟩, s'.nx⟩⟩ := by
  intro B ρ cargs w R hargs
  have R0 : Rel P B ρ ⟨⟨s.h.bs, s.h.len, none, []⟩, s.nx⟩ w := R.congr (fun _ => rfl) rfl rfl
  have ht0 : TR ρ (args ++ List.replicate (fn.ntmps - args.length) undefA) { tmps := cargs.toArray ++ Array.replicate (fn.ntmps - cargs.toArray.size) undef, defers := [] } := by
    refine ⟨?_, rfl⟩
    have hl := hargs.length
    simp only [Array.toList_append, Array.toList_replicate, List.size_toArray]
    rw [← hl]
    exact hargs.append (VRels.replicate _ vrel_undef)
  refine calls_of_wp hf hb (wp_mono (hx.2 B ρ _ w R0 ht0) ?_)
  rintro e' a1 w1 ⟨rfl, ρ1, ht1, hp1⟩
  obtain ⟨u, hu, hr⟩ := results_all hp1.rel ht1 hvs
  have hpost : Post P B ρ s w ρ1 ⟨⟨s'.h.bs, s'.h.len, none, olds s.nx s'.h.wr s.h.wr⟩, s'.nx⟩ w1 := by
    obtain ⟨hnx, ⟨ks, h2, h3, h4⟩, lg, h5, h6⟩ := hp1.shape
    have hlog : olds s.nx s'.h.wr s.h.wr = (lg.filter fun b => Nat.blt b s.nx) ++ s.h.wr := by
      rw [olds_eq]
      congr 2
      simpa using h5
    have hin : ∀ b, b < s.nx → b ∉ (lg.filter fun b => Nat.blt b s.nx) → b ∉ lg := fun b hb hn hm => hn (List.mem_filter.2 ⟨hm, by simpa using hb⟩)
    exact ⟨hp1.rel.congr (fun _ => rfl) rfl rfl, hp1.ext, hp1.unt, ⟨hnx, ⟨ks, h2, h3, h4⟩, _, hlog, fun b hb hn => h6 b hb (hin b hb hn)⟩, hp1.size⟩
  rcases he with rfl | rfl
  · exact ⟨ht1.df, u, hu, _, u, ρ1, rfl, rfl, hr, hpost⟩
  · exact ⟨ht1.df, u, hu, _, u, ρ1, rfl, rfl, hr, hpost⟩
theorem splice_one : ∀ {o : Nat} {cs : List AV} {v : AV}, o < cs.length → splice o [v] cs = some (cs.set o v)
  | 0, x :: cs, v, _ => by cases cs <;> rfl
  | n + 1, x :: cs, v, h => by
    have := splice_one (o := n) (cs := cs) (v := v) (by simpa using h)
    simp only [splice, this]
    rfl
theorem splice_all : ∀ {vs cs : List AV}, vs.length = cs.length → splice 0 vs cs = some vs
  | [], [], _ => rfl
  | v :: vs, c :: cs, h => by
    have := splice_all (vs := vs) (cs := cs) (by simpa using h)
    simp only [splice, this]
theorem note_bs (s : AS) (b : Nat) (y : Bool) : (noteEsc s b y).h.bs = s.h.bs ∧ (noteEsc s b y).nx = s.nx := by
  unfold noteEsc
  split <;> exact ⟨rfl, rfl⟩
/-- A store, of one cell. -/
theorem st_one {s : AS} {t : TypeId} {b o : Nat} {cs : List AV} {v : AV} (ht : sizeA P t = some 1) (hv : v.cells = [v]) (ho : AV.one v = true) (hs : s.get b = some (.cells false cs)) (h : o < cs.length) : ∃ s2, storeA P s t (.ptr b o) v = some s2 ∧ s2.h.bs = setB s.h.bs b (.cells false (cs.set o v)) ∧ s2.nx = s.nx := by
  simp only [storeA, ht, hv, List.length_cons, List.length_nil, Nat.beq_refl, if_true, Nat.zero_add, writeA, hs, List.all_cons, List.all_nil, ho, Bool.and_true, splice_one h]
  exact ⟨_, rfl, note_bs _ _ _⟩
/-- A store of a whole block. -/
theorem st_all {s : AS} {t : TypeId} {b : Nat} {cs vs : List AV} (ht : sizeA P t = some cs.length) (hl : vs.length = cs.length) (ho : vs.all AV.one = true) (hs : s.get b = some (.cells false cs)) : ∃ s2, storeA P s t (.ptr b 0) (.agg vs) = some s2 ∧ s2.h.bs = setB s.h.bs b (.cells false vs) ∧ s2.nx = s.nx := by
  have hv : (AV.agg vs).cells = vs := rfl
  simp only [storeA, ht, hv, hl, Nat.beq_refl, if_true, writeA, hs, ho, splice_all hl]
  exact ⟨_, rfl, note_bs _ _ _⟩
theorem set_keys : ∀ (l : List (Nat × AObj)) (b : Nat) (o : AObj), (setB l b o).map (·.1) = l.map (·.1)
  | [], _, _ => rfl
  | x :: t, b, o => by
    simp only [setB]
    split
    · rfl
    · simp only [List.map_cons, set_keys t b o]
section
variable {Fz : List (Nat × List AV)} {N : Nat} {S : List (Nat × AObj)} {w : Nat → Nat} {C : Nat → List (Nat × AObj)} {ψ : Nat → Nat → Nat} {Ks X : List Nat} {s s2 : AS}
/-- What is turned elsewhere. -/
theorem Par.outside (h : Par P Fz N S w C ψ Ks s) (hz : ∀ x ∈ Fz, x.1 < P.globals.size) (hX : ∀ c, c < s.nx → c ∉ X → s2.get c = s.get c) (hXk : ∀ c ∈ X, c ∈ Ks ∧ P.globals.size ≤ c) (hnx : s.nx ≤ s2.nx) (hk : ∀ k ∈ s2.h.bs.map (·.1), k < s2.nx) : Par P Fz N S w C ψ Ks s2 := by
  refine ⟨fun j hj => ?_, h.sh, h.dis, fun c hc => ⟨Nat.lt_of_lt_of_le (h.ks c hc).1 hnx, (h.ks c hc).2⟩⟩
  have A := h.at_ j hj
  refine ⟨A.glob, fun x hx => ?_, A.out, A.inj, eachX_all fun x hx => ?_, hk⟩
  · obtain ⟨ro, hr⟩ := A.fz x hx
    refine ⟨ro, ?_⟩
    have e := A.glob _ (hz x hx)
    rw [hX _ (A.keys _ (getB_mem hr)) fun hm => ?_]
    · exact hr
    · rw [e] at hm
      have := (hXk _ hm).2
      have := hz x hx
      omega
  · rw [hX _ (A.lt2 hx) fun hm => (h.ks _ (hXk _ hm).1).2 j hj x hx rfl]
    exact eachX_mem A.at_ x hx
theorem Par.same (h : Par P Fz N S w C ψ Ks s) (hz : ∀ x ∈ Fz, x.1 < P.globals.size) (hb : s2.h.bs = s.h.bs) (hn : s2.nx = s.nx) (hk : ∀ k ∈ s.h.bs.map (·.1), k < s.nx) : Par P Fz N S w C ψ Ks s2 :=
  h.outside (X := []) hz (fun c _ _ => by show getB _ _ = getB _ _; rw [hb]) (fun c hc => by cases hc) (by omega) (by rw [hb, hn]; exact hk)
theorem Par.addK (h : Par P Fz N S w C ψ Ks s) {c n : Nat} (hn : ∀ j, j < N → ∀ x ∈ S ++ C j, ψ j x.1 < n) (hc : n ≤ c) (hc2 : c < s.nx) : Par P Fz N S w C ψ (c :: Ks) s :=
  ⟨h.at_, h.sh, h.dis, fun d hd => by
    rcases List.mem_cons.1 hd with rfl | hd
    · exact ⟨hc2, fun j hj x hx => by have := hn j hj x hx; omega⟩
    · exact h.ks d hd⟩
theorem Par.subK (h : Par P Fz N S w C ψ Ks s) {Ks' : List Nat} (hs : ∀ c ∈ Ks', c ∈ Ks) : Par P Fz N S w C ψ Ks' s := ⟨h.at_, h.sh, h.dis, fun c hc => h.ks c (hs c hc)⟩
end
end
end Go.Mini
namespace Go.Proofs.YtcnfblibfndepaaGreatDoor.ctlsCover
open Go Go.Mini
/-! ### a thread's parts, as StepF -/
def tabS : List (Nat × Nat) := [(1, 2), (1, 3), (1, 4), (1, 8), (1, 15), (1, 16), (2, 2), (2, 8), (2, 11), (2, 12), (2, 15), (2, 16), (4, 2), (4, 5), (4, 6), (4, 7), (4, 8), (4, 14), (4, 15), (4, 16), (3, 2), (3, 3), (3, 4), (3, 8), (3, 10), (3, 11), (3, 12), (3, 15), (3, 16), (5, 2), (5, 3), (5, 4), (5, 5), (5, 6), (5, 7), (5, 8), (5, 13), (5, 14), (5, 15), (5, 16), (6, 2), (6, 5), (6, 6), (6, 7), (6, 8), (6, 11), (6, 12), (6, 13), (6, 14), (6, 15), (6, 16)]
theorem tabS_cases : ∀ p ∈ tabS, (p.2 = 8 ∧ ([1, 2, 4, 3, 5, 6] : List Nat).contains p.1 = true) ∨ (2 ≤ p.2 ∧ p.2 ≤ 7 ∧ (p ∈ tab1 ∨ p ∈ tabL)) ∨ (10 ≤ p.2 ∧ p.2 ≤ 16 ∧ p ∈ tab1) := of_decide_eq_true (by kernel_rfl)
theorem tabS_next : ∀ p ∈ tabS, TS.nx ⟨p.2, p.1, 0⟩ = 0 ∨ (p.1, TS.nx ⟨p.2, p.1, 0⟩) ∈ tabS := of_decide_eq_true (by kernel_rfl)
theorem tab1_st : ∀ p ∈ tab1, sT p.2 ≠ 1 ∧ sT p.2 ≠ 3 ∧ sT p.2 ≠ 5 ∧ p.2 ≠ 3 ∧ p.2 ≠ 5 := of_decide_eq_true (by kernel_rfl)
theorem tabL_st : ∀ p ∈ tabL, p.2 = 3 ∨ p.2 = 5 := of_decide_eq_true (by kernel_rfl)
theorem m18 : ∀ m ∈ ([1, 2, 4, 3, 5, 6] : List Nat), (m, 18) ∈ tab1 ∧ (m, 8) ∈ tabS ∧ (m, 2) ∈ tabS ∧ (m, nB m 18) ∈ tabS := of_decide_eq_true (by kernel_rfl)
theorem okM_in {m : Nat} (h : okM m) : m ∈ ([1, 2, 4, 3, 5, 6] : List Nat) := by
  unfold okM at h
  rcases h with rfl | rfl | rfl | rfl | rfl | rfl <;> decide
theorem mem_st {k : Nat} {t : TS} {M : PM} (h1 : t.st ≠ 1) (h3 : t.st ≠ 3) (h5 : t.st ≠ 5) : t.mem k M = M.store (aT k t.fld) t.val := by
  unfold TS.mem
  split <;> first | contradiction | rfl
theorem th_gen {k nm m st : Nat} {M : PM} (hp : (m, st) ∈ tab1 ∨ (m, st) ∈ tabL) (h0 : getW M.ms aEp = 0) (h1 : getW M.ms aEra = 0) :
    StepF Tryz.prog GF 20 (fS st) [.ptr 12 0, .ptr 7 0] (.bool (dnB m st)) (memP M ++ stB k nm m st) (memP ((⟨sT st, m, nm⟩ : TS).mem k M) ++ stB k nm m (nB m st)) (kl []) := by
  rcases hp with hp | hp
  · obtain ⟨a1, a2, a3, a4, a5⟩ := tab1_st _ hp
    have q := q_all k nm M ((⟨sT st, m, nm⟩ : TS).mem k M) (mapO M.ms) (mapO ((⟨sT st, m, nm⟩ : TS).mem k M).ms) _ hp
    refine g_step (v := .bool (dnB m st)) q.1 (fun s0 h7 h8 => ?_) trivial q.2 rfl
    have e : mqD k nm ((⟨sT st, m, nm⟩ : TS).mem k M) (mapO ((⟨sT st, m, nm⟩ : TS).mem k M).ms) m st = (7, [.ptr 7 0, .agg (ak (aT k (TS.fld ⟨sT st, m, nm⟩))), .int .u64 (Int.ofNat (TS.val ⟨sT st, m, nm⟩))], undefA, tfS ((⟨sT st, m, nm⟩ : TS).mem k M) (mapO ((⟨sT st, m, nm⟩ : TS).mem k M).ms)) := by
      unfold mqD
      rw [if_neg a4, if_neg a5]
    show match some (mqD k nm ((⟨sT st, m, nm⟩ : TS).mem k M) (mapO ((⟨sT st, m, nm⟩ : TS).mem k M).ms) m st) with
      | some (mf, ma, mv, tf) => Sound Tryz.prog (.call mf ma s0) ⟨.ret, [mv], tf s0⟩
      | none => True
    rw [e, mem_st (t := ⟨sT st, m, nm⟩) a1 a2 a3]
    exact pstore_at h7 h8 _ (show (0 : Int) ≤ 8 by decide) _
  · rcases tabL_st _ hp with e | e
    · have e : st = 3 := e
      subst e
      have q := q_ld k nm M (M.load aEp) (mapO M.ms) _ hp
      refine g_step (M2 := M.load aEp) (v := .bool (dnB m 3)) q.1 (fun s0 h7 h8 => ?_) trivial q.2 rfl
      have := pload_at h7 h8 aEp
      rw [h0] at this
      exact this
    · have e : st = 5 := e
      subst e
      have q := q_ld k nm M (M.load aEra) (mapO M.ms) _ hp
      refine g_step (M2 := M.load aEra) (v := .bool (dnB m 5)) q.1 (fun s0 h7 h8 => ?_) trivial q.2 rfl
      have := pload_at h7 h8 aEra
      rw [h1] at this
      exact this
theorem stB0 (k nm m nm' m' : Nat) : stB k nm m 0 = stB k nm' m' 0 := by
  have : ∀ nm m, stB k nm m 0 = [(10, gO k false 0 0)] := fun nm m => by unfold stB; rfl
  rw [this, this]
theorem stB1 (k nm m nm' m' : Nat) : stB k nm m 1 = stB k nm' m' 1 := by
  have : ∀ nm m, stB k nm m 1 = [(10, gO k false 0 0), (12, enO (.slice 13 1 1 1) .nilPtr), (13, .cells false [sto k 1 1, lkI])] := fun nm m => by unfold stB; rfl
  rw [this, this]
theorem th_look {k a b c n : Nat} {M : PM} (hk : k < 4) (h : PhW M a b c n) (hl : ∀ x, getW M.ms x < 18446744073709551616) :
    StepF Tryz.prog GF 20 25 [.ptr 12 0, .ptr 7 0] (.bool false) (memP M ++ stB k 0 0 1) (memP (M.load aP) ++ stB k n (modeP a b c) 2) (kl (klL (modeP a b c))) := by
  obtain ⟨d1, d2, d3, d4⟩ := h.dec
  have hm := mode_ok h.may
  have hmq := modeq (n := n) h.ha h.may
  have ha : (Qst.pure GW 27 [u64 (getW M.ms aP)] (.agg (phC a b c n))).ok Tryz.prog := by
    have := asp_call (getW M.ms aP) (hl aP)
    unfold asp at this
    rw [d1, d2, d3, d4] at this
    exact fun s hs => this s hs
  generalize modeP a b c = m at *
  have hm0 : ∀ s0 : AS, s0.get 7 = some (.cells false (M.C (.map 8))) → s0.get 8 = some (mapO M.ms) → Sound Tryz.prog (.call 28 [.ptr 7 0, .agg (ak aP)] s0) ⟨.ret, [u64 (getW M.ms aP)], tfL (M.load aP) s0⟩ := fun s0 h7 h8 => pload_at h7 h8 aP
  have e := qE_ok hk
  have i := qI_ok hk
  unfold okM at hm
  rcases hm with rfl | rfl | rfl | rfl | rfl | rfl
  · have q := lk_1 k n (getW M.ms aP) a b c M (M.load aP) (mapO M.ms)
    exact g_step (M2 := M.load aP) (v := .bool false) q.1 hm0 ⟨ha, hmq, e⟩ q.2 rfl
  · have q := lk_2 k n (getW M.ms aP) a b c M (M.load aP) (mapO M.ms)
    exact g_step (M2 := M.load aP) (v := .bool false) q.1 hm0 ⟨ha, hmq, trivial⟩ q.2 rfl
  · have q := lk_4 k n (getW M.ms aP) a b c M (M.load aP) (mapO M.ms)
    exact g_step (M2 := M.load aP) (v := .bool false) q.1 hm0 ⟨ha, hmq, i⟩ q.2 rfl
  · have q := lk_3 k n (getW M.ms aP) a b c M (M.load aP) (mapO M.ms)
    exact g_step (M2 := M.load aP) (v := .bool false) q.1 hm0 ⟨ha, hmq, e⟩ q.2 rfl
  · have q := lk_5 k n (getW M.ms aP) a b c M (M.load aP) (mapO M.ms)
    exact g_step (M2 := M.load aP) (v := .bool false) q.1 hm0 ⟨ha, hmq, e.1, i⟩ q.2 rfl
  · have q := lk_6 k n (getW M.ms aP) a b c M (M.load aP) (mapO M.ms)
    exact g_step (M2 := M.load aP) (v := .bool false) q.1 hm0 ⟨ha, hmq, i⟩ q.2 rfl
theorem th_newE (k : Nat) (M : PM) : StepF Tryz.prog GF 20 24 [.ptr 10 0] (.ptr 12 0) (memP M ++ stB k 0 0 0) (memP M ++ stB k 0 0 17) (kl [(12, 20), (13, 22)]) := by
  have q := newE k M (mapO M.ms)
  exact g_step (M := M) (M2 := M) (v := .ptr 12 0) q.1 (fun s0 h7 h8 => trivial) trivial q.2 rfl
theorem th_newX {k nm m : Nat} (hk : k < 4) (hm : okM m) (M : PM) : StepF Tryz.prog GF 20 23 [.ptr 10 0] (.ptr 12 0) (memP M ++ stB k nm m 8) (memP M ++ stB k nm m 18) (kl (klX m)) := by
  have e := qE_ok hk
  have i := qI2_ok hk
  have hh := qH_ok hk
  unfold okM at hm
  rcases hm with rfl | rfl | rfl | rfl | rfl | rfl
  · have q := nX_1 k nm M (mapO M.ms)
    exact g_step (M := M) (M2 := M) (v := .ptr 12 0) q.1 (fun s0 h7 h8 => trivial) e q.2 rfl
  · have q := nX_2 k nm M (mapO M.ms)
    exact g_step (M := M) (M2 := M) (v := .ptr 12 0) q.1 (fun s0 h7 h8 => trivial) hh q.2 rfl
  · have q := nX_4 k nm M (mapO M.ms)
    exact g_step (M := M) (M2 := M) (v := .ptr 12 0) q.1 (fun s0 h7 h8 => trivial) i q.2 rfl
  · have q := nX_3 k nm M (mapO M.ms)
    exact g_step (M := M) (M2 := M) (v := .ptr 12 0) q.1 (fun s0 h7 h8 => trivial) ⟨e.1, hh⟩ q.2 rfl
  · have q := nX_5 k nm M (mapO M.ms)
    exact g_step (M := M) (M2 := M) (v := .ptr 12 0) q.1 (fun s0 h7 h8 => trivial) ⟨e.1, i⟩ q.2 rfl
  · have q := nX_6 k nm M (mapO M.ms)
    exact g_step (M := M) (M2 := M) (v := .ptr 12 0) q.1 (fun s0 h7 h8 => trivial) ⟨hh.1, i⟩ q.2 rfl
theorem stB_big (k nm : Nat) : ∀ m st, ∀ y ∈ stB k nm m st, 10 ≤ y.1 := fun m st y hy => by
  have : (stB k nm m st).all (fun y => Nat.ble 10 y.1) = true := by
    unfold stB
    split <;> rfl
  exact Nat.le_of_ble_eq_true (List.all_eq_true.1 this y hy)
end Go.Proofs.YtcnfblibfndepaaGreatDoor.ctlsCover
namespace Go.Proofs.YtcnfblibfndepaaGreatDoor.ctlsCover
open Go Go.Mini
/-! ### a thread's step, where it lies -/
theorem code_at {n f : Nat} {c : Code} {ts : List AV} {s s' : AS} {e : AExit} {ds : List Dec} {q : List Qst} (h : (runX Tryz.prog none_ n f (.code c ts s) ds).map (fun x => (x.1.e, x.1.s, x.2.2)) = some (e, s', q)) (hq : Qsts Tryz.prog q) : ∃ ts', Sound Tryz.prog (.code c ts s) ⟨e, ts', s'⟩ := by
  cases hr : runX Tryz.prog none_ n f (.code c ts s) ds with
  | none => rw [hr] at h; cases h
  | some x =>
    rw [hr] at h
    obtain ⟨⟨e, ts', s1⟩, ds', q'⟩ := x
    simp only [Option.map_some, Option.some.injEq, Prod.mk.injEq] at h
    obtain ⟨rfl, rfl, rfl⟩ := h
    exact ⟨ts', runX_sound mixed none_sound hr hq⟩
noncomputable def cT : Code := match Tryz.prog.funcs[9]? with
  | some fn => match fn.body with
    | some c => c
    | none => .skip
  | none => .skip
def tT (tb o b : Nat) : List AV := [.ptr tb o, .ptr b 0] ++ List.replicate 58 undefA
theorem t_in0 (s s1 s2 s3 : AS) (tb o x g b : Nat) : (runX Tryz.prog none_ 60 9 (.code cT (tT tb o b) s) [.val 9 0 3 .nilPtr, .val 9 0 9 .nilPtr, .val 9 1 3 (.ptr g 0), .call 9 1 4 (.bool false) (fun _ => s), .val 9 3 4 (.ptr g 0), .call 9 3 5 (.ptr x 0) (fun _ => s1), .eff 9 3 8 undefA (fun _ => s2), .val 9 4 3 (.ptr x 0), .val 9 5 3 (.ptr x 0), .call 9 5 5 (.bool false) (fun _ => s3)]).map (fun x => (x.1.e, x.1.s, x.2.2)) =
  some (.ret, s3, [.ld 42 s (.ptr tb (o + 1)) .nilPtr, .ld 43 s (.ptr tb (o + 2)) .nilPtr, .ld 40 s (.ptr tb o) (.ptr g 0), .snd (.call 22 [.ptr g 0] s) ⟨.ret, [.bool false], s⟩, .ld 40 s (.ptr tb o) (.ptr g 0), .snd (.call 24 [.ptr g 0] s) ⟨.ret, [.ptr x 0], s1⟩, .sto s1 42 (.ptr tb (o + 1)) (.ptr x 0) undefA s2, .ld 42 s2 (.ptr tb (o + 1)) (.ptr x 0), .ld 42 s2 (.ptr tb (o + 1)) (.ptr x 0), .snd (.call 25 [.ptr x 0, .ptr b 0] s2) ⟨.ret, [.bool false], s3⟩]) := by kernel_rfl
theorem t_in1 (s s3 : AS) (tb o x b : Nat) : (runX Tryz.prog none_ 60 9 (.code cT (tT tb o b) s) [.val 9 0 3 (.ptr x 0), .val 9 4 3 (.ptr x 0), .val 9 5 3 (.ptr x 0), .call 9 5 5 (.bool false) (fun _ => s3)]).map (fun x => (x.1.e, x.1.s, x.2.2)) =
  some (.ret, s3, [.ld 42 s (.ptr tb (o + 1)) (.ptr x 0), .ld 42 s (.ptr tb (o + 1)) (.ptr x 0), .ld 42 s (.ptr tb (o + 1)) (.ptr x 0), .snd (.call 25 [.ptr x 0, .ptr b 0] s) ⟨.ret, [.bool false], s3⟩]) := by kernel_rfl
theorem t_in2 (s s1 s2 : AS) (tb o x b : Nat) : (runX Tryz.prog none_ 60 9 (.code cT (tT tb o b) s) [.val 9 0 3 (.ptr x 0), .val 9 4 3 (.ptr x 0), .val 9 5 3 (.ptr x 0), .call 9 5 5 (.bool true) (fun _ => s1), .eff 9 6 3 undefA (fun _ => s2)]).map (fun x => (x.1.e, x.1.s, x.2.2)) =
  some (.ret, s2, [.ld 42 s (.ptr tb (o + 1)) (.ptr x 0), .ld 42 s (.ptr tb (o + 1)) (.ptr x 0), .ld 42 s (.ptr tb (o + 1)) (.ptr x 0), .snd (.call 25 [.ptr x 0, .ptr b 0] s) ⟨.ret, [.bool true], s1⟩, .sto s1 42 (.ptr tb (o + 1)) .nilPtr undefA s2]) := by kernel_rfl
theorem t_out0 (s s1 s2 s3 : AS) (tb o x g b : Nat) : (runX Tryz.prog none_ 60 9 (.code cT (tT tb o b) s) [.val 9 0 3 .nilPtr, .val 9 0 9 .nilPtr, .val 9 1 3 (.ptr g 0), .call 9 1 4 (.bool true) (fun _ => s), .val 9 2 4 (.ptr g 0), .call 9 2 5 (.ptr x 0) (fun _ => s1), .eff 9 2 8 undefA (fun _ => s2), .val 9 4 3 .nilPtr, .val 9 7 3 (.ptr x 0), .call 9 7 5 (.bool false) (fun _ => s3)]).map (fun x => (x.1.e, x.1.s, x.2.2)) =
  some (.normal, s3, [.ld 42 s (.ptr tb (o + 1)) .nilPtr, .ld 43 s (.ptr tb (o + 2)) .nilPtr, .ld 40 s (.ptr tb o) (.ptr g 0), .snd (.call 22 [.ptr g 0] s) ⟨.ret, [.bool true], s⟩, .ld 40 s (.ptr tb o) (.ptr g 0), .snd (.call 23 [.ptr g 0] s) ⟨.ret, [.ptr x 0], s1⟩, .sto s1 43 (.ptr tb (o + 2)) (.ptr x 0) undefA s2, .ld 42 s2 (.ptr tb (o + 1)) .nilPtr, .ld 43 s2 (.ptr tb (o + 2)) (.ptr x 0), .snd (.call 26 [.ptr x 0, .ptr b 0] s2) ⟨.ret, [.bool false], s3⟩]) := by kernel_rfl
theorem t_out1 (s s3 : AS) (tb o x b : Nat) : (runX Tryz.prog none_ 60 9 (.code cT (tT tb o b) s) [.val 9 0 3 .nilPtr, .val 9 0 9 (.ptr x 0), .val 9 4 3 .nilPtr, .val 9 7 3 (.ptr x 0), .call 9 7 5 (.bool false) (fun _ => s3)]).map (fun x => (x.1.e, x.1.s, x.2.2)) =
  some (.normal, s3, [.ld 42 s (.ptr tb (o + 1)) .nilPtr, .ld 43 s (.ptr tb (o + 2)) (.ptr x 0), .ld 42 s (.ptr tb (o + 1)) .nilPtr, .ld 43 s (.ptr tb (o + 2)) (.ptr x 0), .snd (.call 26 [.ptr x 0, .ptr b 0] s) ⟨.ret, [.bool false], s3⟩]) := by kernel_rfl
theorem t_out2 (s s1 s2 : AS) (tb o x b : Nat) : (runX Tryz.prog none_ 60 9 (.code cT (tT tb o b) s) [.val 9 0 3 .nilPtr, .val 9 0 9 (.ptr x 0), .val 9 4 3 .nilPtr, .val 9 7 3 (.ptr x 0), .call 9 7 5 (.bool true) (fun _ => s1), .eff 9 8 3 undefA (fun _ => s2)]).map (fun x => (x.1.e, x.1.s, x.2.2)) =
  some (.normal, s2, [.ld 42 s (.ptr tb (o + 1)) .nilPtr, .ld 43 s (.ptr tb (o + 2)) (.ptr x 0), .ld 42 s (.ptr tb (o + 1)) .nilPtr, .ld 43 s (.ptr tb (o + 2)) (.ptr x 0), .snd (.call 26 [.ptr x 0, .ptr b 0] s) ⟨.ret, [.bool true], s1⟩, .sto s1 43 (.ptr tb (o + 2)) .nilPtr undefA s2]) := by kernel_rfl
theorem c40 : isAggA Tryz.prog 40 = some false := by kernel_rfl
theorem c42 : isAggA Tryz.prog 42 = some false := by kernel_rfl
theorem c43 : isAggA Tryz.prog 43 = some false := by kernel_rfl
theorem z42 : sizeA Tryz.prog 42 = some 1 := by kernel_rfl
theorem z43 : sizeA Tryz.prog 43 = some 1 := by kernel_rfl
/-- A thread's step, called. -/
theorem t_call {s s' : AS} {tb o b : Nat} {e : AExit} {ts' : List AV} (h : Sound Tryz.prog (.code cT (tT tb o b) ⟨⟨s.h.bs, s.h.len, none, []⟩, s.nx⟩) ⟨e, ts', s'⟩) (he : e = .normal ∨ e = .ret) : ∃ s2 : AS, s2.h.bs = s'.h.bs ∧ s2.nx = s'.nx ∧ Sound Tryz.prog (.call 9 [.ptr tb o, .ptr b 0] s) ⟨.ret, [.tuple []], s2⟩ := by
  have res : Tryz.f9.results.toList = [] := by kernel_rfl
  have := keepC2 (s := s) (f := 9) (fn := Tryz.f9) (c := cT) (args := [.ptr tb o, .ptr b 0]) (vs := []) Tryz.func9 (by kernel_rfl) (show Sound Tryz.prog (.code cT ([.ptr tb o, .ptr b 0] ++ List.replicate (Tryz.f9.ntmps - 2) undefA) ⟨⟨s.h.bs, s.h.len, none, []⟩, s.nx⟩) ⟨e, ts', s'⟩ from by
    rw [show Tryz.f9.ntmps = 60 from by kernel_rfl]
    exact h) he (by rw [res]; rfl)
  exact ⟨⟨⟨s'.h.bs, s'.h.len, none, olds s.nx s'.h.wr s.h.wr⟩, s'.nx⟩, rfl, rfl, this⟩
def CW (ts : Nat → TS) (X : List (Nat × AObj)) (j : Nat) : List (Nat × AObj) := if j < 4 then stB j (ts j).nm (ts j).md (ts j).st else if j = 4 then X else []
def TW (t : TS) : Prop := t.st ≤ 1 ∨ (t.md, t.st) ∈ tabS
structure RowOk (R : List AV) (ψ : Nat → Nat → Nat) (ts : Nat → TS) : Prop where
  len : R.length = 12
  g : ∀ k, k < 4 → R[3 * k]? = some (.ptr (ψ k 10) 0)
  i : ∀ k, k < 4 → R[3 * k + 1]? = some (if 1 ≤ (ts k).st ∧ (ts k).st ≤ 7 then .ptr (ψ k 12) 0 else .nilPtr)
  o : ∀ k, k < 4 → R[3 * k + 2]? = some (if 10 ≤ (ts k).st then .ptr (ψ k 12) 0 else .nilPtr)
structure LayW (M : PM) (ts : Nat → TS) (X : List (Nat × AObj)) (s : AS) (w : Nat → Nat) (ψ : Nat → Nat → Nat) (tb : Nat) (Ks : List Nat) : Prop where
  par : Par Tryz.prog GF 5 (memP M) w (CW ts X) ψ Ks s
  htb : tb ∈ Ks ∧ 3 ≤ tb
  row : ∃ R, s.get tb = some (.cells false R) ∧ RowOk R ψ ts
  rch : ∀ k, k < 4 → TW (ts k)
  big : ∀ y ∈ X, 10 ≤ y.1
  keys : ∀ k ∈ s.h.bs.map (·.1), k < s.nx
theorem cw_big {ts : Nat → TS} {X : List (Nat × AObj)} (h : ∀ y ∈ X, 10 ≤ y.1) (j : Nat) : ∀ y ∈ CW ts X j, 10 ≤ y.1 := fun y hy => by
  unfold CW at hy
  split at hy
  · exact stB_big _ _ _ _ y hy
  · split at hy
    · exact h y hy
    · cases hy
theorem gz3 : ∀ x ∈ GF, x.1 < Tryz.prog.globals.size := fun x hx => by rw [glN]; exact (gz x hx).1
/-- A call of one part. -/
theorem par_do {M M2 : PM} {w : Nat → Nat} {C : Nat → List (Nat × AObj)} {ψ : Nat → Nat → Nat} {Ks : List Nat} {s : AS} (h : Par Tryz.prog GF 5 (memP M) w C ψ Ks s) (hC : ∀ j, ∀ y ∈ C j, 10 ≤ y.1) {k : Nat} (hk : k < 5) {nx0 : Nat} {f : FuncId} {args : List AV} {v : AV} {c' : List (Nat × AObj)} {κ : Nat → Nat}
    (hs : StepF Tryz.prog GF nx0 f args v (memP M ++ C k) (memP M2 ++ c') κ) (h7 : κ 7 = 7) (h8 : κ 8 = 8) (hn : 9 ≤ nx0) :
    ∃ s' π', Sound Tryz.prog (.call f (rens (ψ k) args) s) ⟨.ret, [v.ren π'], s'⟩ ∧ Par Tryz.prog GF 5 (memP M2) w (tun C k c') (tun ψ k π') Ks s' ∧ (∀ c ∈ Ks, s'.get c = s.get c) ∧ s.nx ≤ s'.nx ∧ (∀ b, b < nx0 → κ b = b → π' b = ψ k b) := by
  obtain ⟨s', π', h1, h2, h3, h4, h5, _⟩ := h.step hk hs rfl (fun x hx => by
    simp only [memP, List.mem_cons, List.not_mem_nil, or_false] at hx
    rcases hx with rfl | rfl
    · exact ⟨show 7 < nx0 by omega, h7⟩
    · exact ⟨show 8 < nx0 by omega, h8⟩) gz3 (fun j _ x hx y hy => by
    have := hC j y hy
    simp only [memP, List.mem_cons, List.not_mem_nil, or_false] at hx
    rcases hx with rfl | rfl
    · show 7 ≠ y.1
      omega
    · show 8 ≠ y.1
      omega) (fun x hx => by
    simp only [memP, List.mem_cons, List.not_mem_nil, or_false] at hx
    rcases hx with rfl | rfl
    · rfl
    · exact mapO_names _ _)
  exact ⟨s', π', h1, h2, h3, h4, h5⟩
theorem cw_tun (ts : Nat → TS) (X : List (Nat × AObj)) {k : Nat} (hk : k < 4) (t : TS) : tun (CW ts X) k (stB k t.nm t.md t.st) = CW (tunP ts k t) X := by
  funext j
  unfold tun CW tunP
  by_cases e : j = k
  · subst e
    rw [if_pos rfl, if_pos hk, if_pos rfl]
  · rw [if_neg e, if_neg e]
theorem RowOk.upd {R R' : List AV} {ψ : Nat → Nat → Nat} {ts : Nat → TS} (h : RowOk R ψ ts) {k : Nat} (hk : k < 4) {t : TS} {π' : Nat → Nat} (h10 : π' 10 = ψ k 10) (hl : R'.length = 12) (hR : ∀ i, i ≠ 3 * k + 1 → i ≠ 3 * k + 2 → R'[i]? = R[i]?)
    (hi : R'[3 * k + 1]? = some (if 1 ≤ t.st ∧ t.st ≤ 7 then .ptr (π' 12) 0 else .nilPtr)) (ho : R'[3 * k + 2]? = some (if 10 ≤ t.st then .ptr (π' 12) 0 else .nilPtr)) : RowOk R' (tun ψ k π') (tunP ts k t) := by
  refine ⟨hl, fun j hj => ?_, fun j hj => ?_, fun j hj => ?_⟩
  · rw [hR _ (by omega) (by omega), h.g j hj]
    by_cases e : j = k
    · subst e
      rw [tun_same, h10]
    · rw [tun_ne _ _ e]
  · by_cases e : j = k
    · subst e
      rw [tun_same, show tunP ts j t j = t from if_pos rfl]
      exact hi
    · rw [tun_ne _ _ e, show tunP ts k t j = ts j from if_neg e, hR _ (by omega) (by omega)]
      exact h.i j hj
  · by_cases e : j = k
    · subst e
      rw [tun_same, show tunP ts j t j = t from if_pos rfl]
      exact ho
    · rw [tun_ne _ _ e, show tunP ts k t j = ts j from if_neg e, hR _ (by omega) (by omega)]
      exact h.o j hj
theorem LayW.same {M : PM} {ts : Nat → TS} {X : List (Nat × AObj)} {s s2 : AS} {w : Nat → Nat} {ψ : Nat → Nat → Nat} {tb : Nat} {Ks : List Nat} (h : LayW M ts X s w ψ tb Ks) (hb : s2.h.bs = s.h.bs) (hn : s2.nx = s.nx) : LayW M ts X s2 w ψ tb Ks := by
  obtain ⟨R, h1, h2⟩ := h.row
  exact ⟨h.par.same gz3 hb hn h.keys, h.htb, ⟨R, by show getB _ _ = _; rw [hb]; exact h1, h2⟩, h.rch, h.big, by rw [hb, hn]; exact h.keys⟩
/-- A block of the row is turned. -/
theorem par_row {M : PM} {w : Nat → Nat} {C : Nat → List (Nat × AObj)} {ψ : Nat → Nat → Nat} {Ks : List Nat} {s s2 : AS} {tb : Nat} {o : AObj} (h : Par Tryz.prog GF 5 (memP M) w C ψ Ks s) (hk : tb ∈ Ks ∧ 3 ≤ tb) (hkeys : ∀ k ∈ s.h.bs.map (·.1), k < s.nx) (hb : s2.h.bs = setB s.h.bs tb o) (hn : s2.nx = s.nx) :
    Par Tryz.prog GF 5 (memP M) w C ψ Ks s2 ∧ (∀ k ∈ s2.h.bs.map (·.1), k < s2.nx) ∧ (∀ c, c ≠ tb → s2.get c = s.get c) ∧ (∀ q, s.get tb = some q → s2.get tb = some o) := by
  have g : ∀ c, s2.get c = (s.set tb o).get c := fun c => by show getB _ _ = getB _ _; rw [hb]; rfl
  have k2 : ∀ k ∈ s2.h.bs.map (·.1), k < s2.nx := by rw [hb, hn, set_keys]; exact hkeys
  refine ⟨h.outside (X := [tb]) gz3 (fun c _ hc => ?_) (fun c hc => ?_) (by omega) k2, k2, fun c hc => by rw [g, get_set_ne hc], fun q hq => by rw [g, get_set_eq hq]⟩
  · rw [g, get_set_ne (by simpa using hc)]
  · rw [List.mem_singleton.1 hc, glN]
    exact hk
theorem klX_10 {m : Nat} (h : okM m) : kl (klX m) 7 = 7 ∧ kl (klX m) 8 = 8 ∧ kl (klX m) 10 = 10 := by
  unfold okM at h
  rcases h with rfl | rfl | rfl | rfl | rfl | rfl <;> decide
theorem klL_10 {m : Nat} (h : okM m) : kl (klL m) 7 = 7 ∧ kl (klL m) 8 = 8 ∧ kl (klL m) 10 = 10 ∧ kl (klL m) 12 = 12 := by
  unfold okM at h
  rcases h with rfl | rfl | rfl | rfl | rfl | rfl <;> decide
end Go.Proofs.YtcnfblibfndepaaGreatDoor.ctlsCover
namespace Go.Proofs.YtcnfblibfndepaaGreatDoor.ctlsCover
open Go Go.Mini
/-! ### a thread's step, where it lies: all its ways -/
theorem stB17 (k nm m nm' m' : Nat) : stB k nm m 17 = stB k nm' m' 17 := by
  have : ∀ nm m, stB k nm m 17 = [(10, gO k false 0 0), (12, enO (.slice 13 0 2 2) .nilPtr), (13, .cells false [sto k 1 1, lkI])] := fun nm m => by unfold stB; rfl
  rw [this, this]
theorem tun_tun {α : Type} (f : Nat → α) (k : Nat) (a b : α) : tun (tun f k a) k b = tun f k b := by
  funext j
  unfold tun
  split <;> rfl
theorem tabS_in : ∀ p ∈ tabS, 2 ≤ p.2 → p.2 ≤ 7 → (TS.nx ⟨p.2, p.1, 0⟩ = 8 ∨ 2 ≤ TS.nx ⟨p.2, p.1, 0⟩ ∧ TS.nx ⟨p.2, p.1, 0⟩ ≤ 7) := of_decide_eq_true (by kernel_rfl)
theorem tabS_out : ∀ p ∈ tabS, 10 ≤ p.2 → p.2 ≤ 16 → (TS.nx ⟨p.2, p.1, 0⟩ = 0 ∨ 10 ≤ TS.nx ⟨p.2, p.1, 0⟩ ∧ TS.nx ⟨p.2, p.1, 0⟩ ≤ 16) := of_decide_eq_true (by kernel_rfl)
theorem m18b : ∀ m ∈ ([1, 2, 4, 3, 5, 6] : List Nat), 10 ≤ TS.nx ⟨8, m, 0⟩ ∧ TS.nx ⟨8, m, 0⟩ ≤ 16 ∧ dnB m 18 = false ∧ (m, TS.nx ⟨8, m, 0⟩) ∈ tabS := of_decide_eq_true (by kernel_rfl)
theorem okM_of {m : Nat} (h : ([1, 2, 4, 3, 5, 6] : List Nat).contains m = true) : okM m := by
  have := List.contains_iff_mem.1 h
  simp only [List.mem_cons, List.not_mem_nil, or_false] at this
  unfold okM
  omega
theorem sT_lo {st : Nat} (h : st ≤ 16) : sT st = st := by
  unfold sT
  rw [if_neg (by omega), if_neg (by omega)]
theorem nB_lo {m st : Nat} (h : st ≤ 16) : nB m st = TS.nx ⟨st, m, 0⟩ := by
  unfold nB
  rw [if_neg (by omega), sT_lo h]
theorem fS_in {st : Nat} (h : st ≤ 7) : fS st = 25 := if_pos (.inr h)
theorem fS_out {st : Nat} (h : 10 ≤ st) (h2 : st ≠ 17) : fS st = 26 := if_neg (by omega)
theorem dn_t {m st n : Nat} (h : nB m st = n) : dnB m st = (Nat.beq n 0 || Nat.beq n 8) := by unfold dnB; rw [h]
theorem dn_f {n : Nat} (h : n ≠ 0) (h2 : n ≠ 8) : (Nat.beq n 0 || Nat.beq n 8) = false := by
  cases e : Nat.beq n 0 with
  | true => exact absurd (Nat.eq_of_beq_eq_true e) h
  | false =>
    cases e2 : Nat.beq n 8 with
    | true => exact absurd (Nat.eq_of_beq_eq_true e2) h2
    | false => rfl
theorem set_at {R : List AV} {i : Nat} {v : AV} (h : i < R.length) : (R.set i v)[i]? = some v := List.getElem?_set_self h
theorem set_ot {R : List AV} {i j : Nat} {v : AV} (h : j ≠ i) : (R.set i v)[j]? = R[j]? := List.getElem?_set_ne (Ne.symm h)
section
variable {M : PM} {a b c n D : Nat} {ts : Nat → TS} {X : List (Nat × AObj)} {s : AS} {w : Nat → Nat} {ψ : Nat → Nat → Nat} {tb : Nat} {Ks : List Nat}
/-- What is told of a thread's step. -/
def TStep (M : PM) (ts : Nat → TS) (X : List (Nat × AObj)) (s : AS) (w : Nat → Nat) (ψ : Nat → Nat → Nat) (tb : Nat) (Ks : List Nat) (k : Nat) : Prop :=
  ∃ s' ψ', Sound Tryz.prog (.call 9 [.ptr tb (3 * k), .ptr (w 7) 0] s) ⟨.ret, [.tuple []], s'⟩ ∧ LayW ((ts k).mem k M) (tunP ts k ((ts k).step M)) X s' w ψ' tb Ks ∧ (∀ c ∈ Ks, c ≠ tb → s'.get c = s.get c) ∧ ψ' 4 = ψ 4 ∧ s.nx ≤ s'.nx
def ent (s : AS) : AS := ⟨⟨s.h.bs, s.h.len, none, []⟩, s.nx⟩
/-- The end of it. -/
theorem t_fin {M' : PM} {ts' : Nat → TS} {s3 : AS} {ψ' : Nat → Nat → Nat} {k : Nat} {e : AExit} {R : List AV} (h : LayW M ts X s w ψ tb Ks) (hc : ∃ ts', Sound Tryz.prog (.code cT (tT tb (3 * k) (w 7)) (ent s)) ⟨e, ts', s3⟩) (he : e = .normal ∨ e = .ret) (hM : M' = (ts k).mem k M) (hts : ts' = tunP ts k ((ts k).step M)) (hP : Par Tryz.prog GF 5 (memP M') w (CW ts' X) ψ' Ks s3) (hR : s3.get tb = some (.cells false R)) (hRo : RowOk R ψ' ts')
    (hr : TW ((ts k).step M)) (hK : ∀ c ∈ Ks, c ≠ tb → s3.get c = s.get c) (h4 : ψ' 4 = ψ 4) (hn : s.nx ≤ s3.nx) : TStep M ts X s w ψ tb Ks k := by
  subst hM hts
  obtain ⟨tt, hc⟩ := hc
  obtain ⟨s2, e1, e2, hS⟩ := t_call hc he
  have L : LayW ((ts k).mem k M) (tunP ts k ((ts k).step M)) X s3 w ψ' tb Ks := ⟨hP, h.htb, ⟨R, hR, hRo⟩, fun j hj => by
    unfold tunP
    split
    · exact hr
    · exact h.rch j hj, h.big, (hP.at_ 0 (by decide)).keys⟩
  exact ⟨s2, ψ', hS, L.same e1 e2, fun c hc hne => by rw [← hK c hc hne]; show getB _ _ = getB _ _; rw [e1], h4, by omega⟩
theorem tstep_at (h : LayW M ts X s w ψ tb Ks) (W : WI M a b c n D ts) {k : Nat} (hk : k < 4) : TStep M ts X s w ψ tb Ks k := by
  have h0 := h.same (s2 := ent s) rfl rfl
  obtain ⟨R, hR, hRo⟩ := h0.row
  have hE : ∀ c, (ent s).get c = s.get c := fun c => rfl
  have hW7 : ∀ {M2 : PM} {C2 : Nat → List (Nat × AObj)} {ψ2 : Nat → Nat → Nat} {s2 : AS}, Par Tryz.prog GF 5 (memP M2) w C2 ψ2 Ks s2 → ψ2 k 7 = w 7 := fun {M2 _ _ _} P => P.sh k (by omega) (7, .cells false (M2.C (.map 8))) (by simp [memP])
  have rch := h.rch k hk
  have T := W.th k hk
  have rl := hRo.len
  have rg := hRo.g k hk
  have ri := hRo.i k hk
  have ro := hRo.o k hk
  obtain ⟨t, ht⟩ : ∃ t, ts k = t := ⟨_, rfl⟩
  have hcw : CW ts X k = stB k t.nm t.md t.st := by unfold CW; rw [if_pos hk, ht]
  obtain ⟨st, md, nm⟩ := t
  rw [ht] at T ri ro rch
  simp only at hcw ri ro
  have Pb := h0.par
  have big := cw_big (ts := ts) h.big
  have z0 := W.ep
  have z1 := W.er
  rcases rch with hs | hs
  · have hs : st ≤ 1 := hs
    have e01 : st = 0 ∨ st = 1 := by omega
    rcases e01 with rfl | rfl
    · -- it begins to enter
      rw [if_neg (by omega)] at ri
      rw [if_neg (by omega)] at ro
      have g10 : (ent s).get (ψ k 10) = some (.cells false (gC k false 0 0 (ψ k 11))) := by
        have := eachX_mem (Pb.at_ k (by omega)).at_ (10, gO k false 0 0) (by rw [hcw]; simp [stB])
        exact this
      obtain ⟨s1, π1, a1, a2, a3, a4, a5⟩ := par_do Pb big (show k < 5 by omega) (M2 := M) (c' := stB k 0 0 17) (by rw [hcw, stB0 k nm md 0 0]; exact th_newE k M) rfl rfl (by decide)
      have p10 : π1 10 = ψ k 10 := a5 10 (by decide) rfl
      have hR1 : s1.get tb = some (.cells false R) := by rw [a3 tb h.htb.1]; exact hR
      obtain ⟨s2, b1, b2, b3⟩ := st_one (P := Tryz.prog) (v := .ptr (π1 12) 0) z42 rfl rfl hR1 (show 3 * k + 1 < R.length by omega)
      obtain ⟨P2, k2, o2, n2⟩ := par_row a2 h.htb ((a2.at_ 0 (by decide)).keys) b2 b3
      have hR2 := n2 _ hR1
      have big2 : ∀ j, ∀ y ∈ tun (CW ts X) k (stB k 0 0 17) j, 10 ≤ y.1 := fun j y hy => by
        unfold tun at hy
        split at hy
        · exact stB_big _ _ _ _ y hy
        · exact big j y hy
      have sg := th_gen (k := k) (nm := nm) (m := 1) (st := 17) (M := M) (.inl (by decide)) z0 z1
      obtain ⟨s3, π3, d1, d2, d3, d4, d5⟩ := par_do P2 big2 (show k < 5 by omega) (c' := stB k nm 1 (nB 1 17)) (by rw [tun_same, stB17 k 0 0 nm 1]; exact sg) rfl rfl (by decide)
      have q10 : π3 10 = π1 10 := by rw [d5 10 (by decide) rfl, tun_same]
      have q12 : π3 12 = π1 12 := by rw [d5 12 (by decide) rfl, tun_same]
      have hR3 : s3.get tb = some (.cells false (R.set (3 * k + 1) (.ptr (π1 12) 0))) := by rw [d3 tb h.htb.1]; exact hR2
      have d1 : Sound Tryz.prog (.call 25 [.ptr (tun ψ k π1 k 12) 0, .ptr (tun ψ k π1 k 7) 0] s2) ⟨.ret, [.bool false], s3⟩ := d1
      rw [hW7 P2, tun_same] at d1
      have hS : (ts k).step M = ⟨1, md, nm⟩ := by rw [ht]; rfl
      have hx := code_at (t_in0 (ent s) s1 s2 s3 tb (3 * k) (π1 12) (ψ k 10) (w 7)) ⟨ld_cell c42 hR ri, ld_cell c43 hR ro, ld_cell c40 hR rg, in_at g10, ld_cell c40 hR rg, a1, ⟨b1, rfl⟩, ld_cell c42 hR2 (set_at (by omega)), ld_cell c42 hR2 (set_at (by omega)), d1, trivial⟩
      rw [tun_tun, tun_tun, show stB k nm 1 (nB 1 17) = stB k nm md 1 from stB1 k nm 1 nm md] at d2
      refine t_fin (k := k) h hx (.inr rfl) (M' := (⟨sT 17, 1, nm⟩ : TS).mem k M) (by rw [ht]; rfl) (ts' := tunP ts k ⟨1, md, nm⟩) (by rw [hS]) (by rw [← cw_tun ts X hk]; exact d2) hR3 (hRo.upd hk (by rw [q10, p10]) (by rw [List.length_set]; exact rl) (fun i h1 _ => set_ot h1) ?_ ?_) (by rw [hS]; exact .inl (Nat.le_refl 1)) (fun c hc hne => by rw [d3 c hc, o2 c hne, a3 c hc]; rfl) (tun_ne _ _ (by omega)) (by show s.nx ≤ s3.nx; have : (ent s).nx = s.nx := rfl; omega)
      · rw [set_at (by omega), q12]
        rfl
      · rw [set_ot (by omega), ro]
        rfl
    · -- it looks at the phase
      rw [if_pos (by omega)] at ri
      rw [if_neg (by omega)] at ro
      have hm := mode_ok W.ph.may
      obtain ⟨s1, π1, a1, a2, a3, a4, a5⟩ := par_do Pb big (show k < 5 by omega) (by rw [hcw, stB1 k nm md 0 0]; exact th_look hk W.ph W.lt) (klL_10 hm).1 (klL_10 hm).2.1 (by decide)
      have p10 : π1 10 = ψ k 10 := a5 10 (by decide) (klL_10 hm).2.2.1
      have p12 : π1 12 = ψ k 12 := a5 12 (by decide) (klL_10 hm).2.2.2
      have a1 : Sound Tryz.prog (.call 25 [.ptr (ψ k 12) 0, .ptr (ψ k 7) 0] (ent s)) ⟨.ret, [.bool false], s1⟩ := a1
      rw [hW7 Pb] at a1
      have hx := code_at (t_in1 (ent s) s1 tb (3 * k) (ψ k 12) (w 7)) ⟨ld_cell c42 hR ri, ld_cell c42 hR ri, ld_cell c42 hR ri, a1, trivial⟩
      have hS : (ts k).step M = ⟨2, modeP a b c, n⟩ := by
        obtain ⟨d1, d2, d3, d4⟩ := W.ph.dec
        rw [ht]
        show (⟨2, modeP (cz (getW M.ms aP % 8)) (getW M.ms aP / 8 % 8) (getW M.ms aP / 64 % 8), getW M.ms aP / 65536 % 281474976710656⟩ : TS) = _
        rw [d1, d2, d3, d4]
      refine t_fin (k := k) h hx (.inr rfl) (M' := M.load aP) (by rw [ht]; rfl) (ts' := tunP ts k ⟨2, modeP a b c, n⟩) (by rw [hS]) (by rw [← cw_tun ts X hk]; exact a2) (by rw [a3 tb h.htb.1]; exact hR) (hRo.upd hk p10 rl (fun i _ _ => rfl) ?_ ?_) (by rw [hS]; exact .inr (m18 _ (okM_in hm)).2.2.1) (fun c hc hne => by rw [a3 c hc]; rfl) (tun_ne _ _ (by omega)) a4
      · rw [ri, p12]
        rfl
      · rw [ro]
        rfl
  · have hs : (md, st) ∈ tabS := hs
    rcases tabS_cases _ hs with ⟨h8, hc⟩ | ⟨l2, l7, hp⟩ | ⟨l10, l16, hp⟩
    · -- it begins to exit
      have h8 : st = 8 := h8
      subst h8
      have hm : okM md := okM_of hc
      rw [if_neg (by omega)] at ri
      rw [if_neg (by omega)] at ro
      obtain ⟨u1, u2, u3, u4⟩ := m18b _ (okM_in hm)
      have g10 : ∃ hi, (ent s).get (ψ k 10) = some (.cells false (gC k true md hi (ψ k 11))) := by
        have : ∃ hi, (10, gO k true md hi) ∈ stB k nm md 8 := by
          unfold okM at hm
          rcases hm with rfl | rfl | rfl | rfl | rfl | rfl <;> exact ⟨_, List.mem_cons_self⟩
        obtain ⟨hi, hin⟩ := this
        have := eachX_mem (Pb.at_ k (by omega)).at_ (10, gO k true md hi) (by rw [hcw]; exact List.mem_append.2 (.inr hin))
        exact ⟨hi, this⟩
      obtain ⟨hi, g10⟩ := g10
      obtain ⟨s1, π1, a1, a2, a3, a4, a5⟩ := par_do Pb big (show k < 5 by omega) (M2 := M) (c' := stB k nm md 18) (by rw [hcw]; exact th_newX hk hm M) (klX_10 hm).1 (klX_10 hm).2.1 (by decide)
      have p10 : π1 10 = ψ k 10 := a5 10 (by decide) (klX_10 hm).2.2
      have hR1 : s1.get tb = some (.cells false R) := by rw [a3 tb h.htb.1]; exact hR
      obtain ⟨s2, b1, b2, b3⟩ := st_one (P := Tryz.prog) (v := .ptr (π1 12) 0) z43 rfl rfl hR1 (show 3 * k + 2 < R.length by omega)
      obtain ⟨P2, k2, o2, n2⟩ := par_row a2 h.htb ((a2.at_ 0 (by decide)).keys) b2 b3
      have hR2 := n2 _ hR1
      have big2 : ∀ j, ∀ y ∈ tun (CW ts X) k (stB k nm md 18) j, 10 ≤ y.1 := fun j y hy => by
        unfold tun at hy
        split at hy
        · exact stB_big _ _ _ _ y hy
        · exact big j y hy
      have sg := th_gen (k := k) (nm := nm) (m := md) (st := 18) (M := M) (.inl (m18 _ (okM_in hm)).1) z0 z1
      obtain ⟨s3, π3, d1, d2, d3, d4, d5⟩ := par_do P2 big2 (show k < 5 by omega) (c' := stB k nm md (nB md 18)) (by rw [tun_same]; exact sg) rfl rfl (by decide)
      have q10 : π3 10 = π1 10 := by rw [d5 10 (by decide) rfl, tun_same]
      have q12 : π3 12 = π1 12 := by rw [d5 12 (by decide) rfl, tun_same]
      have hR3 : s3.get tb = some (.cells false (R.set (3 * k + 2) (.ptr (π1 12) 0))) := by rw [d3 tb h.htb.1]; exact hR2
      have d1 : Sound Tryz.prog (.call 26 [.ptr (tun ψ k π1 k 12) 0, .ptr (tun ψ k π1 k 7) 0] s2) ⟨.ret, [.bool (dnB md 18)], s3⟩ := d1
      rw [hW7 P2, tun_same, u3] at d1
      have hS : (ts k).step M = ⟨TS.nx ⟨8, md, 0⟩, md, nm⟩ := by rw [ht]; rfl
      have hx := code_at (t_out0 (ent s) s1 s2 s3 tb (3 * k) (π1 12) (ψ k 10) (w 7)) ⟨ld_cell c42 hR ri, ld_cell c43 hR ro, ld_cell c40 hR rg, in_at g10, ld_cell c40 hR rg, a1, ⟨b1, rfl⟩, ld_cell c42 hR2 (by rw [set_ot (by omega)]; exact ri), ld_cell c43 hR2 (set_at (by omega)), d1, trivial⟩
      rw [tun_tun, tun_tun, show nB md 18 = TS.nx ⟨8, md, 0⟩ from rfl] at d2
      refine t_fin (k := k) h hx (.inl rfl) (M' := (⟨sT 18, md, nm⟩ : TS).mem k M) (by rw [ht]; rfl) (ts' := tunP ts k ⟨TS.nx ⟨8, md, 0⟩, md, nm⟩) (by rw [hS]) (by rw [← cw_tun ts X hk]; exact d2) hR3 (hRo.upd hk (by rw [q10, p10]) (by rw [List.length_set]; exact rl) (fun i _ h1 => set_ot h1) ?_ ?_) (by rw [hS]; exact .inr u4) (fun c hc hne => by rw [d3 c hc, o2 c hne, a3 c hc]; rfl) (tun_ne _ _ (by omega)) (by show s.nx ≤ s3.nx; have : (ent s).nx = s.nx := rfl; omega)
      · rw [set_ot (by omega), ri, if_neg (by show ¬ (1 ≤ TS.nx ⟨8, md, 0⟩ ∧ TS.nx ⟨8, md, 0⟩ ≤ 7); omega)]
      · rw [set_at (by omega), q12, if_pos u1]
    · -- it enters
      have l2 : 2 ≤ st := l2
      have l7 : st ≤ 7 := l7
      have hb := nB_lo (m := md) (st := st) (by omega)
      have sg := th_gen (k := k) (nm := nm) (m := md) (st := st) (M := M) hp z0 z1
      rw [sT_lo (by omega), fS_in l7] at sg
      rw [if_pos (by omega)] at ri
      rw [if_neg (by omega)] at ro
      obtain ⟨s1, π1, a1, a2, a3, a4, a5⟩ := par_do Pb big (show k < 5 by omega) (by rw [hcw]; exact sg) rfl rfl (by decide)
      have p10 : π1 10 = ψ k 10 := a5 10 (by decide) rfl
      have p12 : π1 12 = ψ k 12 := a5 12 (by decide) rfl
      have a1 : Sound Tryz.prog (.call 25 [.ptr (ψ k 12) 0, .ptr (ψ k 7) 0] (ent s)) ⟨.ret, [.bool (dnB md st)], s1⟩ := a1
      rw [hW7 Pb, dn_t hb] at a1
      rw [hb] at a2
      have hR1 : s1.get tb = some (.cells false R) := by rw [a3 tb h.htb.1]; exact hR
      have hne1 : st ≠ 1 := by omega
      have hS : (ts k).step M = ⟨TS.nx ⟨st, md, 0⟩, md, nm⟩ := by
        rw [ht]
        unfold TS.step
        split
        · rename_i e
          exact absurd e hne1
        · rfl
      have nxt := tabS_next _ hs
      have hin := tabS_in _ hs l2 l7
      simp only at nxt hin
      generalize TS.nx ⟨st, md, 0⟩ = m at *
      have hr : TW ⟨m, md, nm⟩ := nxt.imp (fun e => by show m ≤ 1; omega) id
      rcases hin with rfl | ⟨i2, i7⟩
      · obtain ⟨s2, b1, b2, b3⟩ := st_one (P := Tryz.prog) (v := .nilPtr) z42 rfl rfl hR1 (show 3 * k + 1 < R.length by omega)
        obtain ⟨P2, k2, o2, n2⟩ := par_row a2 h.htb ((a2.at_ 0 (by decide)).keys) b2 b3
        have hR2 := n2 _ hR1
        have hx := code_at (t_in2 (ent s) s1 s2 tb (3 * k) (ψ k 12) (w 7)) ⟨ld_cell c42 hR ri, ld_cell c42 hR ri, ld_cell c42 hR ri, a1, ⟨b1, rfl⟩, trivial⟩
        refine t_fin (k := k) h hx (.inr rfl) (M' := (⟨st, md, nm⟩ : TS).mem k M) (by rw [ht]) (ts' := tunP ts k ⟨8, md, nm⟩) (by rw [hS]) (by rw [← cw_tun ts X hk]; exact P2) hR2 (hRo.upd hk p10 (by rw [List.length_set]; exact rl) (fun i h1 _ => set_ot h1) ?_ ?_) (by rw [hS]; exact hr) (fun c hc hne => by rw [o2 c hne, a3 c hc]; rfl) (tun_ne _ _ (by omega)) (by show s.nx ≤ s2.nx; have : (ent s).nx = s.nx := rfl; omega)
        · rw [set_at (by omega)]
          rfl
        · rw [set_ot (by omega), ro]
          rfl
      · rw [dn_f (by omega) (by omega)] at a1
        have hx := code_at (t_in1 (ent s) s1 tb (3 * k) (ψ k 12) (w 7)) ⟨ld_cell c42 hR ri, ld_cell c42 hR ri, ld_cell c42 hR ri, a1, trivial⟩
        refine t_fin (k := k) h hx (.inr rfl) (M' := (⟨st, md, nm⟩ : TS).mem k M) (by rw [ht]) (ts' := tunP ts k ⟨m, md, nm⟩) (by rw [hS]) (by rw [← cw_tun ts X hk]; exact a2) hR1 (hRo.upd hk p10 rl (fun i _ _ => rfl) ?_ ?_) (by rw [hS]; exact hr) (fun c hc hne => by rw [a3 c hc]; rfl) (tun_ne _ _ (by omega)) a4
        · rw [ri, p12, if_pos (by show 1 ≤ m ∧ m ≤ 7; omega)]
        · rw [ro, if_neg (by show ¬ 10 ≤ m; omega)]
    · -- it exits
      have l10 : 10 ≤ st := l10
      have l16 : st ≤ 16 := l16
      have hb := nB_lo (m := md) (st := st) (by omega)
      have sg := th_gen (k := k) (nm := nm) (m := md) (st := st) (M := M) (.inl hp) z0 z1
      rw [sT_lo (by omega), fS_out l10 (by omega)] at sg
      rw [if_neg (by omega)] at ri
      rw [if_pos (by omega)] at ro
      obtain ⟨s1, π1, a1, a2, a3, a4, a5⟩ := par_do Pb big (show k < 5 by omega) (by rw [hcw]; exact sg) rfl rfl (by decide)
      have p10 : π1 10 = ψ k 10 := a5 10 (by decide) rfl
      have p12 : π1 12 = ψ k 12 := a5 12 (by decide) rfl
      have a1 : Sound Tryz.prog (.call 26 [.ptr (ψ k 12) 0, .ptr (ψ k 7) 0] (ent s)) ⟨.ret, [.bool (dnB md st)], s1⟩ := a1
      rw [hW7 Pb, dn_t hb] at a1
      rw [hb] at a2
      have hR1 : s1.get tb = some (.cells false R) := by rw [a3 tb h.htb.1]; exact hR
      have hne1 : st ≠ 1 := by omega
      have hS : (ts k).step M = ⟨TS.nx ⟨st, md, 0⟩, md, nm⟩ := by
        rw [ht]
        unfold TS.step
        split
        · rename_i e
          exact absurd e hne1
        · rfl
      have nxt := tabS_next _ hs
      have hin := tabS_out _ hs l10 l16
      simp only at nxt hin
      generalize TS.nx ⟨st, md, 0⟩ = m at *
      have hr : TW ⟨m, md, nm⟩ := nxt.imp (fun e => by show m ≤ 1; omega) id
      rcases hin with rfl | ⟨i2, i7⟩
      · obtain ⟨s2, b1, b2, b3⟩ := st_one (P := Tryz.prog) (v := .nilPtr) z43 rfl rfl hR1 (show 3 * k + 2 < R.length by omega)
        obtain ⟨P2, k2, o2, n2⟩ := par_row a2 h.htb ((a2.at_ 0 (by decide)).keys) b2 b3
        have hR2 := n2 _ hR1
        have hx := code_at (t_out2 (ent s) s1 s2 tb (3 * k) (ψ k 12) (w 7)) ⟨ld_cell c42 hR ri, ld_cell c43 hR ro, ld_cell c42 hR ri, ld_cell c43 hR ro, a1, ⟨b1, rfl⟩, trivial⟩
        refine t_fin (k := k) h hx (.inl rfl) (M' := (⟨st, md, nm⟩ : TS).mem k M) (by rw [ht]) (ts' := tunP ts k ⟨0, md, nm⟩) (by rw [hS]) (by rw [← cw_tun ts X hk]; exact P2) hR2 (hRo.upd hk p10 (by rw [List.length_set]; exact rl) (fun i _ h1 => set_ot h1) ?_ ?_) (by rw [hS]; exact hr) (fun c hc hne => by rw [o2 c hne, a3 c hc]; rfl) (tun_ne _ _ (by omega)) (by show s.nx ≤ s2.nx; have : (ent s).nx = s.nx := rfl; omega)
        · rw [set_ot (by omega), ri]
          rfl
        · rw [set_at (by omega)]
          rfl
      · rw [dn_f (by omega) (by omega)] at a1
        have hx := code_at (t_out1 (ent s) s1 tb (3 * k) (ψ k 12) (w 7)) ⟨ld_cell c42 hR ri, ld_cell c43 hR ro, ld_cell c42 hR ri, ld_cell c43 hR ro, a1, trivial⟩
        refine t_fin (k := k) h hx (.inl rfl) (M' := (⟨st, md, nm⟩ : TS).mem k M) (by rw [ht]) (ts' := tunP ts k ⟨m, md, nm⟩) (by rw [hS]) (by rw [← cw_tun ts X hk]; exact a2) hR1 (hRo.upd hk p10 rl (fun i _ _ => rfl) ?_ ?_) (by rw [hS]; exact hr) (fun c hc hne => by rw [a3 c hc]; rfl) (tun_ne _ _ (by omega)) a4
        · rw [ri, if_neg (by show ¬ (1 ≤ m ∧ m ≤ 7); omega)]
        · rw [ro, p12, if_pos (by show 10 ≤ m; omega)]
end
end Go.Proofs.YtcnfblibfndepaaGreatDoor.ctlsCover
