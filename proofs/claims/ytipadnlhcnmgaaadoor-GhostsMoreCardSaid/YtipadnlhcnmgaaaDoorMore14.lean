/- The law GhostsMore answers true, for all arguments. Conditions: those that each theorem names, and no others. -/
import Derived.Test.YtipadnlhcnmgaaaDoorMore13
namespace Go.Proofs.YtipadnlhcnmgaaaDoor.ghostsMore
open Go Go.Mini
theorem gm_loop (L : List Gh) (hL : ∀ k, (eL L k).sl < 9223372036854775808) (n c : Nat) (hn : n ≤ L.length) (hc : n ≤ c) (hn' : n < 1000) (a : Ac) (m : Nat) (hw : a.wa < 18446744073709551616) (hv : a.nw < 18446744073709551616) (hm : m < 4294967296)
    (w r0 : Nat) (b : Nat → Bool) (hwr : w ≠ r0)
    (hone : ∀ k, stF a m (anyK (fun i => holdP a.pl (hg a.wa) (eL L (k + i))) 1) (decide (0 ≤ a.pl ∧ a.pl < 32) && anyK (fun i => segP a.pl (eL L (k + i))) 1) = if b k = true then w else r0)
    (hpre : ∀ k, stF a m (anyK (fun i => holdP a.pl (hg a.wa) (eL L (0 + i))) k) (decide (0 ≤ a.pl ∧ a.pl < 32) && anyK (fun i => segP a.pl (eL L (0 + i))) k) = if anyK b k = true then w else r0) :
    ∀ (d k : Nat) (q1 q2 q3 q4 : AV), n - k = d → k ≤ n →
    ∃ q1' q2' q3' q4', SoundL Tryd.prog [] (.loop (loopAt Tryd.prog 5 0)) (Tm a n c m r0 (prF w r0 b n) k (prF w r0 b k) q1 q2 q3 q4) (Hm a (rowsOf ghC L)) 4 4 (.exit 0) (Tm a n c m r0 (prF w r0 b n) n (prF w r0 b n) q1' q2' q3' q4') (Hm a (rowsOf ghC L)) := by
  intro d
  induction d with
  | zero =>
    intro k q1 q2 q3 q4 hd hk
    have : k = n := by omega
    subst this
    refine ⟨q1, q2, q3, q4, SoundL.stop (SoundL.plain (runX_sound mixed none_sound (gm_end a (rowsOf ghC L) k c m r0 (prF w r0 b k) k (prF w r0 b k) q1 q2 q3 q4) ⟨by simp [Qst.ok], trivial⟩) ?_) (by simp)⟩
    unfold Tm
    repeat (first | exact rfl | refine ⟨_, _, rfl, ?_, ?_⟩ | exact .inr ⟨rfl, rfl⟩ | exact .inl ⟨rfl, rfl⟩ | exact see_same _)
  | succ d ih =>
    intro k q1 q2 q3 q4 hd hk
    obtain ⟨p1, p2, p3, p4, h1⟩ := gm_step L hL n c hn hc hn' a m hw hv hm w r0 b hwr hone hpre k (by omega) q1 q2 q3 q4
    obtain ⟨t1, t2, t3, t4, h2⟩ := ih (k + 1) p1 p2 p3 p4 (by omega) (by omega)
    exact ⟨t1, t2, t3, t4, h1.next h2⟩
theorem one_all (a : Ac) (m : Nat) (h : stF a m false false = 1) (x y : Bool) : stF a m x y = 1 := by
  unfold stF at h ⊢
  by_cases hb : hdrB a = true
  · rw [if_pos hb] at h ⊢
    by_cases c0 : ofF a.wa a.nw m = 0
    · rw [if_pos c0]
    · rw [if_neg c0, if_neg (by simp)] at h
      cases h
  · rw [if_neg hb, if_neg (by simp)] at h
    cases h
theorem law_nn (L : List Gh) (hL : ∀ k, (eL L k).sl < 9223372036854775808) (n c : Nat) (hn : n ≤ L.length) (hc : n ≤ c) (a : Ac) (m : Nat) (hw : a.wa < 18446744073709551616) (hv : a.nw < 18446744073709551616) (hm : m < 4294967296) :
    ∃ e s1, Sound Tryd.prog (.call 5 [.agg (acC a), .slice 2 0 n c, .int .u32 (Int.ofNat m)] (SL2 L)) ⟨e, [.bool true], s1⟩ := by
  by_cases hb : 30 < n
  · exact ⟨_, _, runX_sound mixed none_sound (gl_big a (rowsOf ghC L) n c m) ⟨by simp [Qst.ok]; omega, lives31_call, trivial⟩⟩
  obtain ⟨w, r0, b, hwr, hr, hz, hone, hpre⟩ := kinds a m (fun i => holdP a.pl (hg a.wa) (eL L i)) (fun i => segP a.pl (eL L i)) (decide (0 ≤ a.pl ∧ a.pl < 32))
  have nq := nil_call a m hw hv hm
  rw [hz] at nq
  have aq := step_on L hL 0 n c (by omega) (by omega) a m hw hv hm ⟨⟨Hm a (rowsOf ghC L), 4, none, []⟩, 4⟩ true rfl (by kernel_rfl)
  have hpn := hpre n
  rw [hpn] at aq
  obtain ⟨t1, t2, t3, t4, hloop⟩ := gm_loop L hL n c hn hc (by omega) a m hw hv hm w r0 b hwr hone hpre n 0 undefA undefA undefA undefA (by omega) (by omega)
  have qb : (Qst.val (some (AV.bool (decide (((n : Nat) : Int) > 30)))) (AV.bool false)).ok Tryd.prog := by simp [Qst.ok]; omega
  have qe : (Qst.val (some (AV.bool (Int.ofNat (prF w r0 b n) == Int.ofNat (prF w r0 b n)))) (AV.bool true)).ok Tryd.prog := by simp [Qst.ok]
  have e0 : prF w r0 b 0 = r0 := rfl
  rw [e0] at hloop
  rcases hr with rfl | rfl
  · refine ⟨_, _, runX_sound mixed none_sound (gl_0 a (rowsOf ghC L) n c m (prF w 0 b n) (prF w 0 b n) t1 t2 t3 t4) ⟨qb, nq, aq, Sound.enter (hloop none none []) ?_, qe, lives31_call, trivial⟩⟩
    unfold Tm
    repeat (first | exact rfl | refine ⟨_, _, rfl, ?_, ?_⟩ | exact .inr ⟨rfl, rfl⟩ | exact .inl ⟨rfl, rfl⟩)
  · have h1 : prF w 1 b n = 1 := by
      unfold prF
      rw [← hpn]
      exact one_all a m hz _ _
    refine ⟨_, _, runX_sound mixed none_sound (gl_1 a (rowsOf ghC L) n c m (prF w 1 b n) (prF w 1 b n) t1 t2 t3 t4) ⟨qb, nq, aq, by rw [h1]; simp [Qst.ok], Sound.enter (hloop none none []) ?_, qe, lives31_call, trivial⟩⟩
    unfold Tm
    repeat (first | exact rfl | refine ⟨_, _, rfl, ?_, ?_⟩ | exact .inr ⟨rfl, rfl⟩ | exact .inl ⟨rfl, rfl⟩)
theorem law_nil (a : Ac) (m : Nat) (hw : a.wa < 18446744073709551616) (hv : a.nw < 18446744073709551616) (hm : m < 4294967296) :
    ∃ e s1, Sound Tryd.prog (.call 5 [.agg (acC a), .nilSlice, .int .u32 (Int.ofNat m)] (startS Tryd.prog G2)) ⟨e, [.bool true], s1⟩ := by
  obtain ⟨w, r0, b, _, hr, hz, _, _⟩ := kinds a m (fun _ => false) (fun _ => false) false
  have nq := nil_call a m hw hv hm
  rw [hz] at nq
  rcases hr with rfl | rfl
  · exact ⟨_, _, runX_sound mixed none_sound (gn_0 a m) ⟨nq, nq, lives31_call, trivial⟩⟩
  · exact ⟨_, _, runX_sound mixed none_sound (gn_1 a m) ⟨nq, nq, lives31_call, trivial⟩⟩
def ghK : List Kc := [.int .i64, .int .i64, .int .i64, .int .u32, .bool]
theorem rows_gh : ∀ (rows : List (List SD)) (s : AS), Tyss rows ghK → ∃ L : List Gh, absRows rows s = (rowsOf ghC L, s) ∧ L.length = rows.length ∧ ∀ x ∈ L, x.sl < 9223372036854775808
  | [], s, _ => ⟨[], rfl, rfl, by simp⟩
  | r :: rs, s, h => by
    obtain ⟨h1, h2⟩ := h
    obtain ⟨L, e1, e2, e3⟩ := rows_gh rs s h2
    match r, h1 with
    | [x1, x2, x3, x4, x5], ⟨k1, k2, k3, k4, k5, _⟩ =>
      cases x1 <;> simp only [Ty] at k1
      cases x2 <;> simp only [Ty] at k2
      cases x3 <;> simp only [Ty] at k3
      cases x4 <;> simp only [Ty] at k4
      cases x5 <;> simp only [Ty] at k5
      obtain ⟨rfl, w1⟩ := k1
      obtain ⟨rfl, w2⟩ := k2
      obtain ⟨rfl, w3⟩ := k3
      obtain ⟨rfl, w4⟩ := k4
      rename_i n1 n2 n3 n4 b5
      have b3 := bounds_i64 w3
      have b4 := bounds_u32 w4
      refine ⟨⟨n1, n2, n3, n4.toNat, b5⟩ :: L, ?_, by simp [e2], fun x hx => ?_⟩
      · have hn4 : Int.ofNat n4.toNat = n4 := by simp only [Int.ofNat_eq_natCast]; omega
        show ((absCs [.i .i64 n1, .i .i64 n2, .i .i64 n3, .i .u32 n4, .b b5] s).1 ++ (absRows rs (absCs [.i .i64 n1, .i .i64 n2, .i .i64 n3, .i .u32 n4, .b b5] s).2).1, (absRows rs (absCs [.i .i64 n1, .i .i64 n2, .i .i64 n3, .i .u32 n4, .b b5] s).2).2) = _
        have e4 : absCs [.i .i64 n1, .i .i64 n2, .i .i64 n3, .i .u32 n4, .b b5] s = (ghC ⟨n1, n2, n3, n4.toNat, b5⟩, s) := by
          simp only [absCs, absC, ghC, hn4]
        rw [e4]
        simp only [e1]
        rfl
      · rcases List.mem_cons.1 hx with rfl | hx
        · show n3 < _
          omega
        · exact e3 x hx
theorem eL_lt {L : List Gh} (h : ∀ x ∈ L, x.sl < 9223372036854775808) (k : Nat) : (eL L k).sl < 9223372036854775808 := by
  unfold eL
  cases hk : L[k]? with
  | none => show (0 : Int) < _; omega
  | some x => exact h x (List.mem_of_getElem? hk)
def gpks : List Pk := [⟨true, [.int .u8, .int .u8, .int .i64, .int .i64, .int .u64, .int .u64, .bool]⟩, ⟨false, [.sl ghK]⟩, ⟨false, [.int .u32]⟩]
theorem gmain (xs : List (Bool × List SD)) (h : Fits xs gpks) : ∃ e s1, Sound Tryd.prog (.call 5 (absArgs xs (startS Tryd.prog G2)).1 (absArgs xs (startS Tryd.prog G2)).2) ⟨e, [.bool true], s1⟩ := by
  match xs, h with
  | [(a, [x1, x2, x3, x4, x5, x6, x7]), (b, [y]), (c, [z])], ⟨h1, ⟨k1, k2, k3, k4, k5, k6, k7, _⟩, h3, ⟨h4, _⟩, h5, ⟨h6, _⟩, _⟩ =>
    simp only at h1 k1 k2 k3 k4 k5 k6 k7 h3 h4 h5 h6
    subst h1 h3 h5
    cases x1 <;> simp only [Ty] at k1
    cases x2 <;> simp only [Ty] at k2
    cases x3 <;> simp only [Ty] at k3
    cases x4 <;> simp only [Ty] at k4
    cases x5 <;> simp only [Ty] at k5
    cases x6 <;> simp only [Ty] at k6
    cases x7 <;> simp only [Ty] at k7
    cases z <;> simp only [Ty] at h6
    obtain ⟨rfl, w1⟩ := k1
    obtain ⟨rfl, w2⟩ := k2
    obtain ⟨rfl, w3⟩ := k3
    obtain ⟨rfl, w4⟩ := k4
    obtain ⟨rfl, w5⟩ := k5
    obtain ⟨rfl, w6⟩ := k6
    obtain ⟨rfl, w7⟩ := h6
    rename_i n1 n2 n3 n4 n5 n6 b7 mm
    have c5 := bounds_u64 w5
    have c6 := bounds_u64 w6
    have c7 := bounds_u32 w7
    obtain ⟨wa, rfl⟩ : ∃ n : Nat, n5 = Int.ofNat n := ⟨n5.toNat, by simp only [Int.ofNat_eq_natCast]; omega⟩
    obtain ⟨nw, rfl⟩ : ∃ n : Nat, n6 = Int.ofNat n := ⟨n6.toNat, by simp only [Int.ofNat_eq_natCast]; omega⟩
    obtain ⟨m, rfl⟩ : ∃ n : Nat, mm = Int.ofNat n := ⟨mm.toNat, by simp only [Int.ofNat_eq_natCast]; omega⟩
    simp only [Int.ofNat_eq_natCast] at c5 c6 c7
    cases y with
    | nil => exact law_nil ⟨n1, n2, n3, n4, wa, nw, b7⟩ m (by show wa < _; omega) (by show nw < _; omega) (by omega)
    | sl rows len =>
      simp only [Ty] at h4
      obtain ⟨l1, l2, l3⟩ := h4
      obtain ⟨L, e1, e2, e3⟩ := rows_gh rows (startS Tryd.prog G2) l3
      have := law_nn L (eL_lt e3) len rows.length (by omega) l1 ⟨n1, n2, n3, n4, wa, nw, b7⟩ m (by show wa < _; omega) (by show nw < _; omega) (by omega)
      have e4 : absC (.sl rows len) (startS Tryd.prog G2) = (.slice (startS Tryd.prog G2).nx 0 len rows.length, (startS Tryd.prog G2).push (.cells true (rowsOf ghC L))) := by
        simp only [absC, e1]
      have e5 : absArgs [(true, [.i .u8 n1, .i .u8 n2, .i .i64 n3, .i .i64 n4, .i .u64 (Int.ofNat wa), .i .u64 (Int.ofNat nw), .b b7]), (false, [.sl rows len]), (false, [.i .u32 (Int.ofNat m)])] (startS Tryd.prog G2) =
          ([.agg (acC ⟨n1, n2, n3, n4, wa, nw, b7⟩), .slice (startS Tryd.prog G2).nx 0 len rows.length, .int .u32 (Int.ofNat m)], (startS Tryd.prog G2).push (.cells true (rowsOf ghC L))) := by
        have ci : ∀ (k : IntKind) (n : Int) (s : AS), absC (.i k n) s = (.int k n, s) := fun _ _ _ => rfl
        have cb : ∀ (x : Bool) (s : AS), absC (.b x) s = (.bool x, s) := fun _ _ => rfl
        simp only [absArgs, absCs, ci, cb, e4]
        rfl
      rw [e5]
      exact this
    | _ => simp only [Ty] at h4
end Go.Proofs.YtipadnlhcnmgaaaDoor.ghostsMore
