/- Whether a look fits; a look and its copy are the same. Conditions: those that each theorem names, and no others. -/
import Derived.Test.YtipadnlhcnmgaaaDoorLook7
namespace Go.Proofs.YtipadnlhcnmgaaaDoor.boundsLook
open Go Go.Mini
/-! ### what is compared with itself -/
section
variable (P : Program)
def selfF (ok : TypeId → AV → Bool) (xs : List AV) : List Field → Bool
  | [] => true
  | f :: fs => (match partA P f.type xs f.offset with
    | some y => ok f.type y
    | none => false) && selfF ok xs fs
def selfE (ok : TypeId → AV → Bool) (elem n : Nat) (xs : List AV) : Nat → Nat → Bool
  | 0, _ => true
  | k + 1, i => (match partA P elem xs (i * n) with
    | some y => ok elem y
    | none => false) && selfE ok elem n xs k (i + 1)
def selfOk : Nat → TypeId → AV → Bool
  | 0, _, _ => false
  | d + 1, t, x => match P.underlying t with
    | some .bool => match x with
      | .bool _ => true
      | _ => false
    | some (.int _) => match x with
      | .int _ _ => true
      | _ => false
    | some (.struct fields) => match aggOf x with
      | some xs => if P.stoodInHeld t || !noBlank fields then false else selfF P (selfOk d) xs fields.toList
      | none => false
    | some (.array len elem) => match aggOf x with
      | some xs => match sizeA P elem with
        | some n => selfE P (selfOk d) elem n xs len 0
        | none => false
      | none => false
    | _ => false
theorem selfF_eq {ok : TypeId → AV → Bool} {eq : TypeId → AV → AV → Option Bool} (h : ∀ t x, ok t x = true → eq t x x = some true) (xs : List AV) : ∀ fs : List Field, selfF P ok xs fs = true → eqFields P eq xs xs fs = some true
  | [], _ => rfl
  | f :: fs, hs => by
    simp only [selfF, Bool.and_eq_true] at hs
    obtain ⟨h1, h2⟩ := hs
    split at h1
    · rename_i y hy
      simp only [eqFields, hy, h _ _ h1, selfF_eq h xs fs h2]
    · cases h1
theorem selfE_eq {ok : TypeId → AV → Bool} {eq : TypeId → AV → AV → Option Bool} (h : ∀ t x, ok t x = true → eq t x x = some true) (elem n : Nat) (xs : List AV) : ∀ k i : Nat, selfE P ok elem n xs k i = true → eqElems P eq elem n xs xs k i = some true
  | 0, _, _ => rfl
  | k + 1, i, hs => by
    simp only [selfE, Bool.and_eq_true] at hs
    obtain ⟨h1, h2⟩ := hs
    split at h1
    · rename_i y hy
      simp only [eqElems, hy, h _ _ h1, selfE_eq h elem n xs k (i + 1) h2]
    · cases h1
theorem selfOk_eq (s : AS) : ∀ (d : Nat) (t : TypeId) (x : AV), selfOk P d t x = true → eqA P s d t x x = some true
  | 0, _, _, h => by simp [selfOk] at h
  | d + 1, t, x, h => by
    unfold selfOk at h
    split at h
    · rename_i hu
      split at h
      · simp only [eqA, hu, eqBool, beq_self_eq_true]
      · cases h
    · rename_i hu
      split at h
      · simp only [eqA, hu, eqInt, beq_self_eq_true, if_true]
      · cases h
    · rename_i fields hu
      split at h
      · rename_i xs hx
        split at h
        · cases h
        · rename_i hn
          simp only [eqA, hu, hx, hn, if_false, Bool.false_eq_true]
          exact selfF_eq P (selfOk_eq s d) xs _ h
      · cases h
    · rename_i len elem hu
      split at h
      · rename_i xs hx
        split at h
        · rename_i n hn
          simp only [eqA, hu, hx, hn]
          exact selfE_eq P (selfOk_eq s d) elem n xs len 0 h
        · cases h
      · cases h
    · cases h
end
theorem eq97 (s : AS) (e : En) : ∃ r, eqlA Tryd.prog s 97 (.agg (enC e)) (.agg (enC e)) = some r ∧ AV.bool false = .bool (if false = true then r else !r) := by
  have h : selfOk Tryd.prog 8 97 (.agg (enC e)) = true := by kernel_rfl
  have g : guardA Tryd.prog 97 (.agg (enC e)) (.agg (enC e)) = true := by kernel_rfl
  exact ⟨true, by unfold eqlA; rw [g, if_pos rfl]; exact selfOk_eq Tryd.prog s 8 97 _ h, rfl⟩
theorem eq101 (s : AS) (t : Th) : ∃ r, eqlA Tryd.prog s 101 (.agg (thC t)) (.agg (thC t)) = some r ∧ AV.bool false = .bool (if false = true then r else !r) := by
  have h : selfOk Tryd.prog 8 101 (.agg (thC t)) = true := by kernel_rfl
  have g : guardA Tryd.prog 101 (.agg (thC t)) (.agg (thC t)) = true := by kernel_rfl
  exact ⟨true, by unfold eqlA; rw [g, if_pos rfl]; exact selfOk_eq Tryd.prog s 8 101 _ h, rfl⟩
/-- Does a look fit, by what is unfreed, and both bounds? -/
def fitB (l : Lk) (u hp ib : Nat) : Bool := if l.p0 ≠ 0 then true else if l.p1 = 2 then decide (u ≤ hp) else if l.p1 = 4 then decide (u ≤ ib) else true
theorem le_q (a b : Nat) : (Qst.val (some (AV.bool (decide (Int.ofNat a ≤ Int.ofNat b)))) (AV.bool (decide (a ≤ b)))).ok Tryd.prog := by
  simp only [Qst.ok]
  by_cases h : a ≤ b <;> simp [h]
theorem bne_q (a : Int) (k : Nat) (r : Bool) (h : decide (a ≠ Int.ofNat k) = r) : (Qst.val (some (AV.bool (a != Int.ofNat k))) (AV.bool r)).ok Tryd.prog := by
  have : (a != Int.ofNat k) = r := by
    rw [← h, Bool.eq_iff_iff]
    simp only [bne_iff_ne, decide_eq_true_eq]
  simp only [Qst.ok, this]
theorem beq_q (a : Int) (k : Nat) (r : Bool) (h : decide (a = Int.ofNat k) = r) : (Qst.val (some (AV.bool (a == Int.ofNat k))) (AV.bool r)).ok Tryd.prog := by
  have : (a == Int.ofNat k) = r := by
    rw [← h, Bool.eq_iff_iff]
    simp only [beq_iff_eq, decide_eq_true_eq]
  simp only [Qst.ok, this]
section
variable (l : Lk) (xh xe xt : AV) (c2 c3 c4 : List AV) (u ib : Nat)
theorem ft_call (hu : ∀ s : AS, s.get 4 = some (.cells true c4) → s.get 0 = some (.cells true wf) → Sound Tryd.prog (.call 14 [xh] s) ⟨.ret, [.int .i64 (Int.ofNat u)], s⟩)
    (hi : ∀ s : AS, s.get 3 = some (.cells true c3) → s.get 2 = some (.cells true c2) → Sound Tryd.prog (.call 12 [.int .i64 l.A, .int .i64 l.H, xe, .agg [xt, .int .u64 l.ep]] s) ⟨.ret, [.int .i64 (Int.ofNat ib)], s⟩) :
    ∃ e s1, Sound Tryd.prog (.call 16 [.agg (lkC l xh xe xt)] (can [(4, c4), (3, c3), (2, c2), (0, wf)])) ⟨e, [.bool (fitB l u (tmF (cl l.A) (cl l.H) + 3 * cl l.A) ib)], s1⟩ := by
  unfold fitB
  by_cases h0 : l.p0 = 0
  case neg =>
    rw [if_pos h0]
    exact ⟨_, _, runX_sound mixed none_sound (ft_a l xh xe xt c2 c3 c4 0 0 0 false) ⟨bne_q _ 0 _ (by simpa using h0), trivial⟩⟩
  rw [if_neg (by simpa using h0)]
  have q0 := bne_q l.p0 0 false (by simpa using h0)
  by_cases h2 : l.p1 = 2
  · rw [if_pos h2]
    exact ⟨_, _, runX_sound mixed none_sound (ft_b l xh xe xt c2 c3 c4 u (tmF (cl l.A) (cl l.H) + 3 * cl l.A) 0 _) ⟨q0, beq_q _ 2 true (by simpa using h2), hu _ rfl rfl, fun s _ => hp_call _ _ s, le_q _ _, trivial⟩⟩
  rw [if_neg h2]
  have q2 := beq_q l.p1 2 false (by simpa using h2)
  by_cases h4 : l.p1 = 4
  · rw [if_pos h4]
    exact ⟨_, _, runX_sound mixed none_sound (ft_c l xh xe xt c2 c3 c4 u 0 ib _) ⟨q0, q2, beq_q _ 4 true (by simpa using h4), hu _ rfl rfl, hi _ rfl rfl, le_q _ _, trivial⟩⟩
  · rw [if_neg h4]
    exact ⟨_, _, runX_sound mixed none_sound (ft_d l xh xe xt c2 c3 c4 0 0 0 false) ⟨q0, q2, beq_q _ 4 false (by simpa using h4), trivial⟩⟩
theorem gt_call (hu : ∀ s : AS, s.get 4 = some (.cells true c4) → s.get 0 = some (.cells true wf) → Sound Tryd.prog (.call 15 [xh] s) ⟨.ret, [.int .i64 (Int.ofNat u)], s⟩)
    (hi : ∀ s : AS, s.get 3 = some (.cells true c3) → s.get 2 = some (.cells true c2) → Sound Tryd.prog (.call 13 [.int .i64 l.A, .int .i64 l.H, xe, .agg [xt, .int .u64 l.ep]] s) ⟨.ret, [.int .i64 (Int.ofNat ib)], s⟩) :
    ∃ e s1, Sound Tryd.prog (.call 17 [.agg [.int .u8 l.p0, .int .u8 l.p1, .int .u8 l.p2, .int .u64 l.pn], .agg [.int .i64 l.A, .int .i64 l.H], xh, xe, .agg [xt, .int .u64 l.ep]] (can [(4, c4), (3, c3), (2, c2), (0, wf)])) ⟨e, [.bool (fitB l u (tmF (cl l.A) (cl l.H) + 3 * cl l.A) ib)], s1⟩ := by
  unfold fitB
  by_cases h0 : l.p0 = 0
  case neg =>
    rw [if_pos h0]
    exact ⟨_, _, runX_sound mixed none_sound (gt_a l xh xe xt c2 c3 c4 0 0 0 false) ⟨bne_q _ 0 _ (by simpa using h0), trivial⟩⟩
  rw [if_neg (by simpa using h0)]
  have q0 := bne_q l.p0 0 false (by simpa using h0)
  by_cases h2 : l.p1 = 2
  · rw [if_pos h2]
    exact ⟨_, _, runX_sound mixed none_sound (gt_b l xh xe xt c2 c3 c4 u (tmF (cl l.A) (cl l.H) + 3 * cl l.A) 0 _) ⟨q0, beq_q _ 2 true (by simpa using h2), hu _ rfl rfl, fun s _ => rhp_call _ _ s, le_q _ _, trivial⟩⟩
  rw [if_neg h2]
  have q2 := beq_q l.p1 2 false (by simpa using h2)
  by_cases h4 : l.p1 = 4
  · rw [if_pos h4]
    exact ⟨_, _, runX_sound mixed none_sound (gt_c l xh xe xt c2 c3 c4 u 0 ib _) ⟨q0, q2, beq_q _ 4 true (by simpa using h4), hu _ rfl rfl, hi _ rfl rfl, le_q _ _, trivial⟩⟩
  · rw [if_neg h4]
    exact ⟨_, _, runX_sound mixed none_sound (gt_d l xh xe xt c2 c3 c4 0 0 0 false) ⟨q0, q2, beq_q _ 4 false (by simpa using h4), trivial⟩⟩
end
section
variable (l : Lk) (yh ye yt xh xe xt : AV) (c2 c3 c4 c5 c6 c7 : List AV) (nh ne nt : Nat) (wd : Nat → Nat) (en : Nat → En) (th : Nat → Th)
  (hyh : RowX 27 24 7 c7 yh nh (fun k => .int .u64 (Int.ofNat (wd k)))) (hxh : RowX 27 24 4 c4 xh nh (fun k => .int .u64 (Int.ofNat (wd k))))
  (hye : RowX 28 97 5 c5 ye ne (fun k => .agg (enC (en k)))) (hxe : RowX 28 97 2 c2 xe ne (fun k => .agg (enC (en k))))
  (hyt : RowX 29 101 6 c6 yt nt (fun k => .agg (thC (th k)))) (hxt : RowX 29 101 3 c3 xt nt (fun k => .agg (thC (th k))))
def Bs : List (Nat × AObj) := [(9, .cells false (lkC l xh xe xt)), (8, .cells false (lkC l yh ye yt)), (7, .cells true c7), (6, .cells true c6), (5, .cells true c5), (4, .cells true c4), (3, .cells true c3), (2, .cells true c2)]
include hyh hxh in
theorem sm_hl (k6 k7 : AV) : ∀ (m k : Nat) (j : Nat → AV), nh - k = m → k ≤ nh → SoundL Tryd.prog [] (.loop (loopAt Tryd.prog 18 0)) (Tc l yh ye yt xh xe xt (.int .i64 (Int.ofNat k)) k6 k7 j) (Bs l yh ye yt xh xe xt c2 c3 c4 c5 c6 c7) 8 10 (.exit 0) (Tc l yh ye yt xh xe xt (.int .i64 (Int.ofNat nh)) k6 k7 j) (Bs l yh ye yt xh xe xt c2 c3 c4 c5 c6 c7) := by
  intro m
  induction m with
  | zero =>
    intro k j hm hk
    have : k = nh := by omega
    subst this
    refine SoundL.stop (SoundL.plain (runX_sound mixed none_sound (sm_he l yh ye yt xh xe xt c2 c3 c4 c5 c6 c7 k 0 0 k 0 0 0 undefA k6 k7 j j j en0 th0) ⟨hyh.len _, lt_q _ _ _ (by simp), trivial⟩) ?_) (by simp)
    unfold Tc
    repeat (first | exact rfl | refine ⟨_, _, rfl, ?_, ?_⟩ | exact .inl ⟨rfl, rfl⟩ | exact .inl ⟨hyh.na.1.symm, hyh.na.2⟩ | exact .inl ⟨hxh.na.1.symm, hxh.na.2⟩ | exact see_same _)
  | succ m ih =>
    intro k j hm hk
    have hkn : k < nh := by omega
    have hsm := hyh.small
    obtain ⟨o, hi, hl⟩ := hyh.at_ k hkn
    obtain ⟨o2, hi2, hl2⟩ := hxh.at_ k hkn
    have q0 := lt_q k nh true (by simpa using hkn)
    refine SoundL.next (SoundL.plain (runX_sound mixed none_sound (sm_h l yh ye yt xh xe xt c2 c3 c4 c5 c6 c7 nh 0 0 k o o2 (wd k) undefA k6 k7 j j j en0 th0) ⟨hyh.len _, q0, hi, hl _ true rfl, hi2, hl2 _ true rfl, by simp [Qst.ok], inc_q k (by omega), trivial⟩) ?_) (ih (k + 1) j (by omega) (by omega))
    unfold Tc
    repeat (first | exact rfl | refine ⟨_, _, rfl, ?_, ?_⟩ | exact .inl ⟨rfl, rfl⟩ | exact .inl ⟨hyh.na.1.symm, hyh.na.2⟩ | exact .inl ⟨hxh.na.1.symm, hxh.na.2⟩ | exact see_same _)
include hye hxe in
theorem sm_el (k5 k7 : AV) : ∀ (m k : Nat) (j : Nat → AV), ne - k = m → k ≤ ne → ∃ j', SoundL Tryd.prog [] (.loop (loopAt Tryd.prog 18 1)) (Tc l yh ye yt xh xe xt k5 (.int .i64 (Int.ofNat k)) k7 j) (Bs l yh ye yt xh xe xt c2 c3 c4 c5 c6 c7) 8 10 (.exit 2) (Tc l yh ye yt xh xe xt k5 (.int .i64 (Int.ofNat ne)) k7 j') (Bs l yh ye yt xh xe xt c2 c3 c4 c5 c6 c7) := by
  intro m
  induction m with
  | zero =>
    intro k j hm hk
    have : k = ne := by omega
    subst this
    refine ⟨j, SoundL.stop (SoundL.plain (runX_sound mixed none_sound (sm_ee l yh ye yt xh xe xt c2 c3 c4 c5 c6 c7 0 k 0 k 0 0 0 k5 undefA k7 j j j en0 th0) ⟨hye.len _, lt_q _ _ _ (by simp), trivial⟩) ?_) (by simp)⟩
    unfold Tc
    repeat (first | exact rfl | refine ⟨_, _, rfl, ?_, ?_⟩ | exact .inl ⟨rfl, rfl⟩ | exact .inl ⟨hye.na.1.symm, hye.na.2⟩ | exact .inl ⟨hxe.na.1.symm, hxe.na.2⟩ | exact see_same _)
  | succ m ih =>
    intro k j hm hk
    have hkn : k < ne := by omega
    have hsm := hye.small
    obtain ⟨o, hi, hl⟩ := hye.at_ k hkn
    obtain ⟨o2, hi2, hl2⟩ := hxe.at_ k hkn
    have q0 := lt_q k ne true (by simpa using hkn)
    obtain ⟨j', ih⟩ := ih (k + 1) (fun q => if q = 64 then .agg (enC (en k)) else if q = 69 then .agg (enC (en k)) else j q) (by omega) (by omega)
    refine ⟨j', SoundL.next (SoundL.plain (runX_sound mixed none_sound (sm_e l yh ye yt xh xe xt c2 c3 c4 c5 c6 c7 0 ne 0 k o o2 0 k5 undefA k7 j j j (en k) th0) ⟨hye.len _, q0, hi, hl _ true rfl, hi2, hl2 _ true rfl, eq97 _ _, inc_q k (by omega), trivial⟩) ?_) ih⟩
    unfold Tc
    repeat (first | exact rfl | refine ⟨_, _, rfl, ?_, ?_⟩ | exact .inl ⟨rfl, rfl⟩ | exact .inl ⟨hye.na.1.symm, hye.na.2⟩ | exact .inl ⟨hxe.na.1.symm, hxe.na.2⟩ | exact see_same _)
include hyt hxt in
theorem sm_tl (k5 k6 : AV) : ∀ (m k : Nat) (j : Nat → AV), nt - k = m → k ≤ nt → ∃ j', SoundL Tryd.prog [] (.loop (loopAt Tryd.prog 18 2)) (Tc l yh ye yt xh xe xt k5 k6 (.int .i64 (Int.ofNat k)) j) (Bs l yh ye yt xh xe xt c2 c3 c4 c5 c6 c7) 8 10 (.exit 4) (Tc l yh ye yt xh xe xt k5 k6 (.int .i64 (Int.ofNat nt)) j') (Bs l yh ye yt xh xe xt c2 c3 c4 c5 c6 c7) := by
  intro m
  induction m with
  | zero =>
    intro k j hm hk
    have : k = nt := by omega
    subst this
    refine ⟨j, SoundL.stop (SoundL.plain (runX_sound mixed none_sound (sm_te l yh ye yt xh xe xt c2 c3 c4 c5 c6 c7 0 0 k k 0 0 0 k5 k6 undefA j j j en0 th0) ⟨hyt.len _, lt_q _ _ _ (by simp), trivial⟩) ?_) (by simp)⟩
    unfold Tc
    repeat (first | exact rfl | refine ⟨_, _, rfl, ?_, ?_⟩ | exact .inl ⟨rfl, rfl⟩ | exact .inl ⟨hyt.na.1.symm, hyt.na.2⟩ | exact .inl ⟨hxt.na.1.symm, hxt.na.2⟩ | exact see_same _)
  | succ m ih =>
    intro k j hm hk
    have hkn : k < nt := by omega
    have hsm := hyt.small
    obtain ⟨o, hi, hl⟩ := hyt.at_ k hkn
    obtain ⟨o2, hi2, hl2⟩ := hxt.at_ k hkn
    have q0 := lt_q k nt true (by simpa using hkn)
    obtain ⟨j', ih⟩ := ih (k + 1) (fun q => if q = 84 then .agg (thC (th k)) else if q = 90 then .agg (thC (th k)) else j q) (by omega) (by omega)
    refine ⟨j', SoundL.next (SoundL.plain (runX_sound mixed none_sound (sm_t l yh ye yt xh xe xt c2 c3 c4 c5 c6 c7 0 0 nt k o o2 0 k5 k6 undefA j j j en0 (th k)) ⟨hyt.len _, q0, hi, hl _ true rfl, hi2, hl2 _ true rfl, eq101 _ _, inc_q k (by omega), trivial⟩) ?_) ih⟩
    unfold Tc
    repeat (first | exact rfl | refine ⟨_, _, rfl, ?_, ?_⟩ | exact .inl ⟨rfl, rfl⟩ | exact .inl ⟨hyt.na.1.symm, hyt.na.2⟩ | exact .inl ⟨hxt.na.1.symm, hxt.na.2⟩ | exact see_same _)
include hyh hxh hye hxe hyt hxt in
theorem sm_call : ∃ e s1, Sound Tryd.prog (.call 18 [.agg (lkC l yh ye yt), .agg (lkC l xh xe xt)] ⟨⟨[(7, .cells true c7), (6, .cells true c6), (5, .cells true c5), (4, .cells true c4), (3, .cells true c3), (2, .cells true c2)], 6, none, []⟩, 8⟩) ⟨e, [.bool true], s1⟩ := by
  have hh := sm_hl l yh ye yt xh xe xt c2 c3 c4 c5 c6 c7 nh wd hyh hxh undefA undefA nh 0 (fun _ => undefA) (by omega) (by omega)
  obtain ⟨j2, h2⟩ := sm_el l yh ye yt xh xe xt c2 c3 c4 c5 c6 c7 ne en hye hxe (.int .i64 (Int.ofNat nh)) undefA ne 0 (fun _ => undefA) (by omega) (by omega)
  obtain ⟨j3, h3⟩ := sm_tl l yh ye yt xh xe xt c2 c3 c4 c5 c6 c7 nt th hyt hxt (.int .i64 (Int.ofNat nh)) (.int .i64 (Int.ofNat ne)) nt 0 j2 (by omega) (by omega)
  refine ⟨_, _, runX_sound mixed none_sound (sm_run l yh ye yt xh xe xt c2 c3 c4 c5 c6 c7 nh ne nt 0 0 0 0 undefA undefA undefA (fun _ => undefA) j2 j3 en0 th0)
    ⟨hyh.len _, hxh.len _, by simp [Qst.ok], hye.len _, hxe.len _, by simp [Qst.ok], hyt.len _, hxt.len _, by simp [Qst.ok], Sound.enter (hh none none []) ?_, Sound.enter (h2 none none []) ?_, Sound.enter (h3 none none []) ?_, trivial⟩⟩
  all_goals unfold Tc
  all_goals repeat (first | exact rfl | refine ⟨_, _, rfl, ?_, ?_⟩ | exact .inr ⟨rfl, rfl⟩ | exact .inl ⟨rfl, rfl⟩ | exact .inl ⟨hyh.na.1.symm, hyh.na.2⟩ | exact .inl ⟨hxh.na.1.symm, hxh.na.2⟩ | exact .inl ⟨hye.na.1.symm, hye.na.2⟩ | exact .inl ⟨hxe.na.1.symm, hxe.na.2⟩ | exact .inl ⟨hyt.na.1.symm, hyt.na.2⟩ | exact .inl ⟨hxt.na.1.symm, hxt.na.2⟩ | exact see_same _)
end
end Go.Proofs.YtipadnlhcnmgaaaDoor.boundsLook
