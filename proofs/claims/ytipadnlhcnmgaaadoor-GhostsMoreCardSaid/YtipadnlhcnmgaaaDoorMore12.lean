/- One turn of the law: it goes on, and what is found so far is what the ghosts up to here forbid. Conditions: those that each theorem names, and no others. -/
import Derived.Test.YtipadnlhcnmgaaaDoorMore11
namespace Go.Proofs.YtipadnlhcnmgaaaDoor.ghostsMore
open Go Go.Mini
theorem sli_one {n c k : Nat} (h : k < c) : sliceA Tryd.prog 54 (.slice 2 0 n c) (some (.int .i64 (Int.ofNat k))) (some (.int .i64 (Int.ofNat (k + 1)))) none = some (.slice 2 (k * 5) 1 (c - k)) := by
  have h1 : boundA (some (.int .i64 (Int.ofNat (k + 1)))) n c = some (k + 1) := by
    simp only [boundA]
    rw [if_pos ⟨by simp only [Int.ofNat_eq_natCast]; omega, by simp only [Int.ofNat_eq_natCast]; omega⟩]
    simp
  have h2 : boundA (some (.int .i64 (Int.ofNat k))) 0 (k + 1) = some k := by
    simp only [boundA]
    rw [if_pos ⟨by simp only [Int.ofNat_eq_natCast]; omega, by simp only [Int.ofNat_eq_natCast]; omega⟩]
    simp
  have h3 : boundA none c c = some c := rfl
  simp only [sliceA, t54, z61, h1, h2, h3]
  simp
theorem sli_pre {n c k : Nat} (h : k ≤ c) : sliceA Tryd.prog 54 (.slice 2 0 n c) none (some (.int .i64 (Int.ofNat k))) none = some (.slice 2 0 k c) := by
  have h1 : boundA (some (.int .i64 (Int.ofNat k))) n c = some k := by
    simp only [boundA]
    rw [if_pos ⟨by simp only [Int.ofNat_eq_natCast]; omega, by simp only [Int.ofNat_eq_natCast]; omega⟩]
    simp
  have h2 : boundA none 0 k = some 0 := rfl
  have h3 : boundA none c c = some c := rfl
  simp only [sliceA, t54, z61, h1, h2, h3]
  simp
theorem g59 : isAggA Tryd.prog 59 = some true := by kernel_rfl
theorem z59 : sizeA Tryd.prog 59 = some 3 := by kernel_rfl
theorem ld_ref {L : List Gh} {k : Nat} {s : AS} {ro : Bool} (hs : s.get 2 = some (.cells ro (rowsOf ghC L))) (hk : k < L.length) : loadA Tryd.prog s 59 (.ptr 2 (k * 5 + 2)) = some (.agg [.int .i64 (eL L k).sl, .int .u32 (Int.ofNat (eL L k).gn), .bool (eL L k).mr]) := by
  obtain ⟨r, hr⟩ := rows_at (f := ghC) (n := 5) (fun _ => rfl) (eL_at hk)
  have h2 : (rowsOf ghC L).drop (k * 5 + 2) = [.int .i64 (eL L k).sl, .int .u32 (Int.ofNat (eL L k).gn), .bool (eL L k).mr] ++ r := by
    rw [← List.drop_drop, hr]
    rfl
  simp only [loadA, g59, z59, readA, hs, h2]
  rw [takeN_row (n := 3) rfl]
theorem step_on (L : List Gh) (hL : ∀ k, (eL L k).sl < 9223372036854775808) (o n c : Nat) (h : o + n ≤ L.length) (hn : n < 1000) (a : Ac) (m : Nat) (hw : a.wa < 18446744073709551616) (hv : a.nw < 18446744073709551616) (hm : m < 4294967296)
    (s : AS) (ro : Bool) (hs : s.get 2 = some (.cells ro (rowsOf ghC L))) (hG : hasG s G2 = true) :
    Sound Tryd.prog (.call 22 [.agg (acC a), .slice 2 (o * 5) n c, .int .u32 (Int.ofNat m)] s) ⟨.ret, [.int .u8 (Int.ofNat (stF a m (anyK (fun i => holdP a.pl (hg a.wa) (eL L (o + i))) n) (decide (0 ≤ a.pl ∧ a.pl < 32) && anyK (fun i => segP a.pl (eL L (o + i))) n)))], s⟩ :=
  on_rows2 (step_call _ n L (fun k => eL L (o + k)) (row_of h hn) rfl (fun k _ => hL _) a m hw hv hm) rfl s ro hs hG
theorem hold_on (L : List Gh) (n c : Nat) (h : n ≤ L.length) (hn : n < 1000) (sl : Int) (gn : Nat) (mk : Bool) (s : AS) (ro : Bool) (hs : s.get 2 = some (.cells ro (rowsOf ghC L))) :
    Sound Tryd.prog (.call 23 [.slice 2 0 n c, .agg [.int .i64 sl, .int .u32 (Int.ofNat gn), .bool mk]] s) ⟨.ret, [.bool (anyK (fun k => holdP sl gn (eL L (0 + k))) n)], s⟩ :=
  on_rows (hold_call (.slice 2 (0 * 5) n c) n L (fun k => eL L (0 + k)) (row_of (by omega) hn) sl gn mk) rfl s ro hs
theorem seg_on (L : List Gh) (hL : ∀ k, (eL L k).sl < 9223372036854775808) (n c : Nat) (h : n ≤ L.length) (hn : n < 1000) (sg : Int) (s : AS) (ro : Bool) (hs : s.get 2 = some (.cells ro (rowsOf ghC L))) :
    Sound Tryd.prog (.call 24 [.slice 2 0 n c, .int .i64 sg] s) ⟨.ret, [.bool (decide (0 ≤ sg ∧ sg < 32) && anyK (fun k => segP sg (eL L (0 + k))) n)], s⟩ :=
  on_rows (seg_call (.slice 2 (0 * 5) n c) n L (fun k => eL L (0 + k)) (row_of (by omega) hn) (fun k _ => hL _) sg) rfl s ro hs
theorem ne_true {x y : Nat} (h : x ≠ y) : (Qst.val (some (AV.bool (Int.ofNat x != Int.ofNat y))) (AV.bool true)).ok Tryd.prog := by simp [Qst.ok]; omega
theorem ne_false {x : Nat} : (Qst.val (some (AV.bool (Int.ofNat x != Int.ofNat x))) (AV.bool false)).ok Tryd.prog := by simp [Qst.ok]
theorem eq_false {x y : Nat} (h : x ≠ y) : (Qst.val (some (AV.bool (Int.ofNat x == Int.ofNat y))) (AV.bool false)).ok Tryd.prog := by simp [Qst.ok]; omega
def prF (w r0 : Nat) (b : Nat → Bool) (k : Nat) : Nat := if anyK b k = true then w else r0
theorem tm_get (a : Ac) (L : List Gh) : (⟨⟨Hm a (rowsOf ghC L), 4, none, []⟩, 4⟩ : AS).get 2 = some (.cells true (rowsOf ghC L)) := rfl
theorem gm_step (L : List Gh) (hL : ∀ k, (eL L k).sl < 9223372036854775808) (n c : Nat) (hn : n ≤ L.length) (hc : n ≤ c) (hn' : n < 1000) (a : Ac) (m : Nat) (hw : a.wa < 18446744073709551616) (hv : a.nw < 18446744073709551616) (hm : m < 4294967296)
    (w r0 : Nat) (b : Nat → Bool) (hwr : w ≠ r0)
    (hone : ∀ k, stF a m (anyK (fun i => holdP a.pl (hg a.wa) (eL L (k + i))) 1) (decide (0 ≤ a.pl ∧ a.pl < 32) && anyK (fun i => segP a.pl (eL L (k + i))) 1) = if b k = true then w else r0)
    (hpre : ∀ k, stF a m (anyK (fun i => holdP a.pl (hg a.wa) (eL L (0 + i))) k) (decide (0 ≤ a.pl ∧ a.pl < 32) && anyK (fun i => segP a.pl (eL L (0 + i))) k) = if anyK b k = true then w else r0)
    (k : Nat) (hk : k < n) (q1 q2 q3 q4 : AV) :
    ∃ q1' q2' q3' q4', SoundL Tryd.prog [] (loopAt Tryd.prog 5 0) (Tm a n c m r0 (prF w r0 b n) k (prF w r0 b k) q1 q2 q3 q4) (Hm a (rowsOf ghC L)) 4 4 .normal (Tm a n c m r0 (prF w r0 b n) (k + 1) (prF w r0 b (k + 1)) q1' q2' q3' q4') (Hm a (rowsOf ghC L)) := by
  have q_lt : (Qst.val (some (AV.bool (decide (Int.ofNat k < ((n : Nat) : Int))))) (AV.bool true)).ok Tryd.prog := by simp [Qst.ok]; omega
  have q_k1 : (Qst.val (some (AV.int IntKind.i64 (IntKind.i64.wrap (Int.ofNat (k + 1))))) (AV.int IntKind.i64 (Int.ofNat (k + 1)))).ok Tryd.prog := by
    simp only [Qst.ok]
    rw [i64_wrap (by simp only [Int.ofNat_eq_natCast]; omega) (by simp only [Int.ofNat_eq_natCast]; omega)]
  have q_one := step_on L hL k 1 (c - k) (by omega) (by omega) a m hw hv hm ⟨⟨Hm a (rowsOf ghC L), 4, none, []⟩, 4⟩ true rfl (by kernel_rfl)
  rw [hone k] at q_one
  have q_pre := step_on L hL 0 k c (by omega) (by omega) a m hw hv hm ⟨⟨Hm a (rowsOf ghC L), 4, none, []⟩, 4⟩ true rfl (by kernel_rfl)
  rw [hpre k] at q_pre
  have q_idx : indexAddrA Tryd.prog 54 (.slice 2 0 n c) (.int .i64 (Int.ofNat k)) = some (.ptr 2 (k * 5)) := by
    have := idx_slice (b := 2) (o := 0) (cap := c) (kk := .i64) t54 z61 hk
    rwa [Nat.zero_add] at this
  have q_ld := ld_ref (tm_get a L) (k := k) (by omega)
  have q_hold : ∀ s : AS, s.get 2 = some (.cells true (rowsOf ghC L)) → Sound Tryd.prog (.call 23 [.slice 2 0 n c, .agg [.int .i64 (eL L k).sl, .int .u32 (Int.ofNat (eL L k).gn), .bool (!(eL L k).mr)]] s) ⟨.ret, [.bool true], s⟩ := by
    intro s hs
    have := hold_on L n c hn hn' (eL L k).sl (eL L k).gn (!(eL L k).mr) s true hs
    rwa [anyK_of (b := fun k' => holdP (eL L k).sl (eL L k).gn (eL L (0 + k'))) hk (by simp [holdP])] at this
  have fin : ∀ (v' : Nat), prF w r0 b (k + 1) = v' → (∃ q1' q2' q3' q4', SoundL Tryd.prog [] (loopAt Tryd.prog 5 0) (Tm a n c m r0 (prF w r0 b n) k (prF w r0 b k) q1 q2 q3 q4) (Hm a (rowsOf ghC L)) 4 4 .normal (Tm a n c m r0 (prF w r0 b n) (k + 1) v' q1' q2' q3' q4') (Hm a (rowsOf ghC L))) →
      ∃ q1' q2' q3' q4', SoundL Tryd.prog [] (loopAt Tryd.prog 5 0) (Tm a n c m r0 (prF w r0 b n) k (prF w r0 b k) q1 q2 q3 q4) (Hm a (rowsOf ghC L)) 4 4 .normal (Tm a n c m r0 (prF w r0 b n) (k + 1) (prF w r0 b (k + 1)) q1' q2' q3' q4') (Hm a (rowsOf ghC L)) := by
    intro v' h1 h2
    rw [h1]
    exact h2
  have hs1 : anyK b (k + 1) = (anyK b k || b k) := anyK_succ b k
  have eb : ∀ (s1 : AS), s1.get 3 = some (.cells false (acC a)) → s1.get 2 = some (.cells true (rowsOf ghC L)) → s1.get 0 = some (.cells true wf) → s1.get 1 = some (.cells true lf) → eachB (fun b o => o.names (fun c => Nat.blt c 4) = true ∧ s1.get b = some o) (Hm a (rowsOf ghC L)) :=
    fun s1 h3 h2 h0 h1 => ⟨⟨rfl, h3⟩, ⟨gh_names L, h2⟩, ⟨by kernel_rfl, h0⟩, ⟨by kernel_rfl, h1⟩, trivial⟩
  by_cases h1 : anyK b k = true ∧ b k = true
  · obtain ⟨h1, h2⟩ := h1
    rw [h1] at q_pre
    rw [h2] at q_one
    have e1 : prF w r0 b k = w := by unfold prF; rw [h1]; rfl
    have e2 : prF w r0 b (k + 1) = w := by unfold prF; rw [hs1, h1, h2]; rfl
    have e3 : prF w r0 b n = w := by
      unfold prF
      rw [anyK_mono (b := b) (k := k + 1) (by omega) (by rw [hs1, h1, h2]; rfl)]
      rfl
    refine fin w e2 ?_
    rw [e1, e3]
    by_cases s0 : 0 ≤ (eL L k).sl
    case neg =>
      refine ⟨_, _, _, _, SoundL.intro (runX_sound mixed none_sound (gm_tt0 a (rowsOf ghC L) n c m r0 w k w w w q1 q2 q3 q4 (eL L k).sl (eL L k).gn (eL L k).mr) ⟨q_lt, q_k1, sli_one (by omega), q_one, sli_pre (by omega), q_pre, ne_true hwr, eq_false hwr, ne_true hwr, ne_false, ne_true hwr, q_idx, q_ld, q_hold _ rfl, by simp [Qst.ok]; omega, q_k1, trivial⟩) (ts' := Tm a n c m r0 w (k + 1) w (.agg (acC a)) (.agg (acC a)) (.agg [.int .i64 (eL L k).sl, .int .u32 (Int.ofNat (eL L k).gn), .bool (eL L k).mr]) (.agg [.int .i64 (eL L k).sl, .int .u32 (Int.ofNat (eL L k).gn), .bool (!(eL L k).mr)])) ?_ (sameBut_refl _) (eb _ rfl rfl rfl rfl)⟩
      unfold Tm
      repeat (first | exact rfl | refine ⟨_, _, rfl, ?_, ?_⟩ | exact .inr ⟨rfl, rfl⟩ | exact .inl ⟨rfl, rfl⟩)
    by_cases s1 : (eL L k).sl < 256
    case neg =>
      refine ⟨_, _, _, _, SoundL.intro (runX_sound mixed none_sound (gm_tt1 a (rowsOf ghC L) n c m r0 w k w w w q1 q2 q3 q4 (eL L k).sl (eL L k).gn (eL L k).mr) ⟨q_lt, q_k1, sli_one (by omega), q_one, sli_pre (by omega), q_pre, ne_true hwr, eq_false hwr, ne_true hwr, ne_false, ne_true hwr, q_idx, q_ld, q_hold _ rfl, by simp [Qst.ok]; omega, by simp [Qst.ok]; omega, q_k1, trivial⟩) (ts' := Tm a n c m r0 w (k + 1) w (.agg (acC a)) (.agg (acC a)) (.agg [.int .i64 (eL L k).sl, .int .u32 (Int.ofNat (eL L k).gn), .bool (eL L k).mr]) (.agg [.int .i64 (eL L k).sl, .int .u32 (Int.ofNat (eL L k).gn), .bool (!(eL L k).mr)])) ?_ (sameBut_refl _) (eb _ rfl rfl rfl rfl)⟩
      unfold Tm
      repeat (first | exact rfl | refine ⟨_, _, rfl, ?_, ?_⟩ | exact .inr ⟨rfl, rfl⟩ | exact .inl ⟨rfl, rfl⟩)
    have q_quo : (Qst.val (some (AV.int IntKind.i64 (IntKind.i64.wrap ((eL L k).sl.tdiv (Int.ofNat 8))))) (AV.int IntKind.i64 ((eL L k).sl / 8))).ok Tryd.prog := by
      simp only [Qst.ok]
      rw [show (eL L k).sl.tdiv (Int.ofNat 8) = (eL L k).sl / 8 from Int.tdiv_eq_ediv_of_nonneg s0, i64_wrap (by omega) (by omega)]
    have q_seg : ∀ s : AS, s.get 2 = some (.cells true (rowsOf ghC L)) → Sound Tryd.prog (.call 24 [.slice 2 0 n c, .int .i64 ((eL L k).sl / 8)] s) ⟨.ret, [.bool true], s⟩ := by
      intro s hs
      have := seg_on L hL n c hn hn' ((eL L k).sl / 8) s true hs
      rwa [anyK_of (b := fun k' => segP ((eL L k).sl / 8) (eL L (0 + k'))) hk (by simp [segP, s0]), show decide (0 ≤ (eL L k).sl / 8 ∧ (eL L k).sl / 8 < 32) = true from by simp; omega] at this
    refine ⟨_, _, _, _, SoundL.intro (runX_sound mixed none_sound (gm_tt2 a (rowsOf ghC L) n c m r0 w k w w w q1 q2 q3 q4 (eL L k).sl (eL L k).gn (eL L k).mr) ⟨q_lt, q_k1, sli_one (by omega), q_one, sli_pre (by omega), q_pre, ne_true hwr, eq_false hwr, ne_true hwr, ne_false, ne_true hwr, q_idx, q_ld, q_hold _ rfl, by simp [Qst.ok]; omega, by simp [Qst.ok]; omega, q_quo, q_seg _ rfl, q_k1, trivial⟩) (ts' := Tm a n c m r0 w (k + 1) w (.agg (acC a)) (.agg (acC a)) (.agg [.int .i64 (eL L k).sl, .int .u32 (Int.ofNat (eL L k).gn), .bool (eL L k).mr]) (.agg [.int .i64 (eL L k).sl, .int .u32 (Int.ofNat (eL L k).gn), .bool (!(eL L k).mr)])) ?_ (sameBut_refl _) (eb _ rfl rfl rfl rfl)⟩
    unfold Tm
    repeat (first | exact rfl | refine ⟨_, _, rfl, ?_, ?_⟩ | exact .inr ⟨rfl, rfl⟩ | exact .inl ⟨rfl, rfl⟩)
  by_cases h1 : anyK b k = true ∧ b k = false
  · obtain ⟨h1, h2⟩ := h1
    rw [h1] at q_pre
    rw [h2] at q_one
    have e1 : prF w r0 b k = w := by unfold prF; rw [h1]; rfl
    have e2 : prF w r0 b (k + 1) = w := by unfold prF; rw [hs1, h1, h2]; rfl
    have e3 : prF w r0 b n = w := by
      unfold prF
      rw [anyK_mono (b := b) (k := k + 1) (by omega) (by rw [hs1, h1, h2]; rfl)]
      rfl
    refine fin w e2 ?_
    rw [e1, e3]
    by_cases s0 : 0 ≤ (eL L k).sl
    case neg =>
      refine ⟨_, _, _, _, SoundL.intro (runX_sound mixed none_sound (gm_tf0 a (rowsOf ghC L) n c m r0 w k w r0 w q1 q2 q3 q4 (eL L k).sl (eL L k).gn (eL L k).mr) ⟨q_lt, q_k1, sli_one (by omega), q_one, sli_pre (by omega), q_pre, ne_true hwr, eq_false hwr, ne_false, ne_false, q_idx, q_ld, q_hold _ rfl, by simp [Qst.ok]; omega, q_k1, trivial⟩) (ts' := Tm a n c m r0 w (k + 1) w (.agg (acC a)) (.agg (acC a)) (.agg [.int .i64 (eL L k).sl, .int .u32 (Int.ofNat (eL L k).gn), .bool (eL L k).mr]) (.agg [.int .i64 (eL L k).sl, .int .u32 (Int.ofNat (eL L k).gn), .bool (!(eL L k).mr)])) ?_ (sameBut_refl _) (eb _ rfl rfl rfl rfl)⟩
      unfold Tm
      repeat (first | exact rfl | refine ⟨_, _, rfl, ?_, ?_⟩ | exact .inr ⟨rfl, rfl⟩ | exact .inl ⟨rfl, rfl⟩)
    by_cases s1 : (eL L k).sl < 256
    case neg =>
      refine ⟨_, _, _, _, SoundL.intro (runX_sound mixed none_sound (gm_tf1 a (rowsOf ghC L) n c m r0 w k w r0 w q1 q2 q3 q4 (eL L k).sl (eL L k).gn (eL L k).mr) ⟨q_lt, q_k1, sli_one (by omega), q_one, sli_pre (by omega), q_pre, ne_true hwr, eq_false hwr, ne_false, ne_false, q_idx, q_ld, q_hold _ rfl, by simp [Qst.ok]; omega, by simp [Qst.ok]; omega, q_k1, trivial⟩) (ts' := Tm a n c m r0 w (k + 1) w (.agg (acC a)) (.agg (acC a)) (.agg [.int .i64 (eL L k).sl, .int .u32 (Int.ofNat (eL L k).gn), .bool (eL L k).mr]) (.agg [.int .i64 (eL L k).sl, .int .u32 (Int.ofNat (eL L k).gn), .bool (!(eL L k).mr)])) ?_ (sameBut_refl _) (eb _ rfl rfl rfl rfl)⟩
      unfold Tm
      repeat (first | exact rfl | refine ⟨_, _, rfl, ?_, ?_⟩ | exact .inr ⟨rfl, rfl⟩ | exact .inl ⟨rfl, rfl⟩)
    have q_quo : (Qst.val (some (AV.int IntKind.i64 (IntKind.i64.wrap ((eL L k).sl.tdiv (Int.ofNat 8))))) (AV.int IntKind.i64 ((eL L k).sl / 8))).ok Tryd.prog := by
      simp only [Qst.ok]
      rw [show (eL L k).sl.tdiv (Int.ofNat 8) = (eL L k).sl / 8 from Int.tdiv_eq_ediv_of_nonneg s0, i64_wrap (by omega) (by omega)]
    have q_seg : ∀ s : AS, s.get 2 = some (.cells true (rowsOf ghC L)) → Sound Tryd.prog (.call 24 [.slice 2 0 n c, .int .i64 ((eL L k).sl / 8)] s) ⟨.ret, [.bool true], s⟩ := by
      intro s hs
      have := seg_on L hL n c hn hn' ((eL L k).sl / 8) s true hs
      rwa [anyK_of (b := fun k' => segP ((eL L k).sl / 8) (eL L (0 + k'))) hk (by simp [segP, s0]), show decide (0 ≤ (eL L k).sl / 8 ∧ (eL L k).sl / 8 < 32) = true from by simp; omega] at this
    refine ⟨_, _, _, _, SoundL.intro (runX_sound mixed none_sound (gm_tf2 a (rowsOf ghC L) n c m r0 w k w r0 w q1 q2 q3 q4 (eL L k).sl (eL L k).gn (eL L k).mr) ⟨q_lt, q_k1, sli_one (by omega), q_one, sli_pre (by omega), q_pre, ne_true hwr, eq_false hwr, ne_false, ne_false, q_idx, q_ld, q_hold _ rfl, by simp [Qst.ok]; omega, by simp [Qst.ok]; omega, q_quo, q_seg _ rfl, q_k1, trivial⟩) (ts' := Tm a n c m r0 w (k + 1) w (.agg (acC a)) (.agg (acC a)) (.agg [.int .i64 (eL L k).sl, .int .u32 (Int.ofNat (eL L k).gn), .bool (eL L k).mr]) (.agg [.int .i64 (eL L k).sl, .int .u32 (Int.ofNat (eL L k).gn), .bool (!(eL L k).mr)])) ?_ (sameBut_refl _) (eb _ rfl rfl rfl rfl)⟩
    unfold Tm
    repeat (first | exact rfl | refine ⟨_, _, rfl, ?_, ?_⟩ | exact .inr ⟨rfl, rfl⟩ | exact .inl ⟨rfl, rfl⟩)
  by_cases h1 : anyK b k = false ∧ b k = true
  · obtain ⟨h1, h2⟩ := h1
    rw [h1] at q_pre
    rw [h2] at q_one
    have e1 : prF w r0 b k = r0 := by unfold prF; rw [h1]; rfl
    have e2 : prF w r0 b (k + 1) = w := by unfold prF; rw [hs1, h1, h2]; rfl
    have e3 : prF w r0 b n = w := by
      unfold prF
      rw [anyK_mono (b := b) (k := k + 1) (by omega) (by rw [hs1, h1, h2]; rfl)]
      rfl
    refine fin w e2 ?_
    rw [e1, e3]
    by_cases s0 : 0 ≤ (eL L k).sl
    case neg =>
      refine ⟨_, _, _, _, SoundL.intro (runX_sound mixed none_sound (gm_ft0 a (rowsOf ghC L) n c m r0 w k r0 w r0 q1 q2 q3 q4 (eL L k).sl (eL L k).gn (eL L k).mr) ⟨q_lt, q_k1, sli_one (by omega), q_one, sli_pre (by omega), q_pre, ne_false, ne_true hwr, ne_false, ne_true hwr, q_idx, q_ld, q_hold _ rfl, by simp [Qst.ok]; omega, q_k1, trivial⟩) (ts' := Tm a n c m r0 w (k + 1) w (.agg (acC a)) (.agg (acC a)) (.agg [.int .i64 (eL L k).sl, .int .u32 (Int.ofNat (eL L k).gn), .bool (eL L k).mr]) (.agg [.int .i64 (eL L k).sl, .int .u32 (Int.ofNat (eL L k).gn), .bool (!(eL L k).mr)])) ?_ (sameBut_refl _) (eb _ rfl rfl rfl rfl)⟩
      unfold Tm
      repeat (first | exact rfl | refine ⟨_, _, rfl, ?_, ?_⟩ | exact .inr ⟨rfl, rfl⟩ | exact .inl ⟨rfl, rfl⟩)
    by_cases s1 : (eL L k).sl < 256
    case neg =>
      refine ⟨_, _, _, _, SoundL.intro (runX_sound mixed none_sound (gm_ft1 a (rowsOf ghC L) n c m r0 w k r0 w r0 q1 q2 q3 q4 (eL L k).sl (eL L k).gn (eL L k).mr) ⟨q_lt, q_k1, sli_one (by omega), q_one, sli_pre (by omega), q_pre, ne_false, ne_true hwr, ne_false, ne_true hwr, q_idx, q_ld, q_hold _ rfl, by simp [Qst.ok]; omega, by simp [Qst.ok]; omega, q_k1, trivial⟩) (ts' := Tm a n c m r0 w (k + 1) w (.agg (acC a)) (.agg (acC a)) (.agg [.int .i64 (eL L k).sl, .int .u32 (Int.ofNat (eL L k).gn), .bool (eL L k).mr]) (.agg [.int .i64 (eL L k).sl, .int .u32 (Int.ofNat (eL L k).gn), .bool (!(eL L k).mr)])) ?_ (sameBut_refl _) (eb _ rfl rfl rfl rfl)⟩
      unfold Tm
      repeat (first | exact rfl | refine ⟨_, _, rfl, ?_, ?_⟩ | exact .inr ⟨rfl, rfl⟩ | exact .inl ⟨rfl, rfl⟩)
    have q_quo : (Qst.val (some (AV.int IntKind.i64 (IntKind.i64.wrap ((eL L k).sl.tdiv (Int.ofNat 8))))) (AV.int IntKind.i64 ((eL L k).sl / 8))).ok Tryd.prog := by
      simp only [Qst.ok]
      rw [show (eL L k).sl.tdiv (Int.ofNat 8) = (eL L k).sl / 8 from Int.tdiv_eq_ediv_of_nonneg s0, i64_wrap (by omega) (by omega)]
    have q_seg : ∀ s : AS, s.get 2 = some (.cells true (rowsOf ghC L)) → Sound Tryd.prog (.call 24 [.slice 2 0 n c, .int .i64 ((eL L k).sl / 8)] s) ⟨.ret, [.bool true], s⟩ := by
      intro s hs
      have := seg_on L hL n c hn hn' ((eL L k).sl / 8) s true hs
      rwa [anyK_of (b := fun k' => segP ((eL L k).sl / 8) (eL L (0 + k'))) hk (by simp [segP, s0]), show decide (0 ≤ (eL L k).sl / 8 ∧ (eL L k).sl / 8 < 32) = true from by simp; omega] at this
    refine ⟨_, _, _, _, SoundL.intro (runX_sound mixed none_sound (gm_ft2 a (rowsOf ghC L) n c m r0 w k r0 w r0 q1 q2 q3 q4 (eL L k).sl (eL L k).gn (eL L k).mr) ⟨q_lt, q_k1, sli_one (by omega), q_one, sli_pre (by omega), q_pre, ne_false, ne_true hwr, ne_false, ne_true hwr, q_idx, q_ld, q_hold _ rfl, by simp [Qst.ok]; omega, by simp [Qst.ok]; omega, q_quo, q_seg _ rfl, q_k1, trivial⟩) (ts' := Tm a n c m r0 w (k + 1) w (.agg (acC a)) (.agg (acC a)) (.agg [.int .i64 (eL L k).sl, .int .u32 (Int.ofNat (eL L k).gn), .bool (eL L k).mr]) (.agg [.int .i64 (eL L k).sl, .int .u32 (Int.ofNat (eL L k).gn), .bool (!(eL L k).mr)])) ?_ (sameBut_refl _) (eb _ rfl rfl rfl rfl)⟩
    unfold Tm
    repeat (first | exact rfl | refine ⟨_, _, rfl, ?_, ?_⟩ | exact .inr ⟨rfl, rfl⟩ | exact .inl ⟨rfl, rfl⟩)
  by_cases h1 : anyK b k = false ∧ b k = false
  · obtain ⟨h1, h2⟩ := h1
    rw [h1] at q_pre
    rw [h2] at q_one
    have e1 : prF w r0 b k = r0 := by unfold prF; rw [h1]; rfl
    have e2 : prF w r0 b (k + 1) = r0 := by unfold prF; rw [hs1, h1, h2]; rfl
    refine fin r0 e2 ?_
    rw [e1]
    by_cases s0 : 0 ≤ (eL L k).sl
    case neg =>
      refine ⟨_, _, _, _, SoundL.intro (runX_sound mixed none_sound (gm_ff0 a (rowsOf ghC L) n c m r0 (prF w r0 b n) k r0 r0 r0 q1 q2 q3 q4 (eL L k).sl (eL L k).gn (eL L k).mr) ⟨q_lt, q_k1, sli_one (by omega), q_one, sli_pre (by omega), q_pre, ne_false, ne_false, ne_false, q_idx, q_ld, q_hold _ rfl, by simp [Qst.ok]; omega, q_k1, trivial⟩) (ts' := Tm a n c m r0 (prF w r0 b n) (k + 1) r0 (.agg (acC a)) (.agg (acC a)) (.agg [.int .i64 (eL L k).sl, .int .u32 (Int.ofNat (eL L k).gn), .bool (eL L k).mr]) (.agg [.int .i64 (eL L k).sl, .int .u32 (Int.ofNat (eL L k).gn), .bool (!(eL L k).mr)])) ?_ (sameBut_refl _) (eb _ rfl rfl rfl rfl)⟩
      unfold Tm
      repeat (first | exact rfl | refine ⟨_, _, rfl, ?_, ?_⟩ | exact .inr ⟨rfl, rfl⟩ | exact .inl ⟨rfl, rfl⟩)
    by_cases s1 : (eL L k).sl < 256
    case neg =>
      refine ⟨_, _, _, _, SoundL.intro (runX_sound mixed none_sound (gm_ff1 a (rowsOf ghC L) n c m r0 (prF w r0 b n) k r0 r0 r0 q1 q2 q3 q4 (eL L k).sl (eL L k).gn (eL L k).mr) ⟨q_lt, q_k1, sli_one (by omega), q_one, sli_pre (by omega), q_pre, ne_false, ne_false, ne_false, q_idx, q_ld, q_hold _ rfl, by simp [Qst.ok]; omega, by simp [Qst.ok]; omega, q_k1, trivial⟩) (ts' := Tm a n c m r0 (prF w r0 b n) (k + 1) r0 (.agg (acC a)) (.agg (acC a)) (.agg [.int .i64 (eL L k).sl, .int .u32 (Int.ofNat (eL L k).gn), .bool (eL L k).mr]) (.agg [.int .i64 (eL L k).sl, .int .u32 (Int.ofNat (eL L k).gn), .bool (!(eL L k).mr)])) ?_ (sameBut_refl _) (eb _ rfl rfl rfl rfl)⟩
      unfold Tm
      repeat (first | exact rfl | refine ⟨_, _, rfl, ?_, ?_⟩ | exact .inr ⟨rfl, rfl⟩ | exact .inl ⟨rfl, rfl⟩)
    have q_quo : (Qst.val (some (AV.int IntKind.i64 (IntKind.i64.wrap ((eL L k).sl.tdiv (Int.ofNat 8))))) (AV.int IntKind.i64 ((eL L k).sl / 8))).ok Tryd.prog := by
      simp only [Qst.ok]
      rw [show (eL L k).sl.tdiv (Int.ofNat 8) = (eL L k).sl / 8 from Int.tdiv_eq_ediv_of_nonneg s0, i64_wrap (by omega) (by omega)]
    have q_seg : ∀ s : AS, s.get 2 = some (.cells true (rowsOf ghC L)) → Sound Tryd.prog (.call 24 [.slice 2 0 n c, .int .i64 ((eL L k).sl / 8)] s) ⟨.ret, [.bool true], s⟩ := by
      intro s hs
      have := seg_on L hL n c hn hn' ((eL L k).sl / 8) s true hs
      rwa [anyK_of (b := fun k' => segP ((eL L k).sl / 8) (eL L (0 + k'))) hk (by simp [segP, s0]), show decide (0 ≤ (eL L k).sl / 8 ∧ (eL L k).sl / 8 < 32) = true from by simp; omega] at this
    refine ⟨_, _, _, _, SoundL.intro (runX_sound mixed none_sound (gm_ff2 a (rowsOf ghC L) n c m r0 (prF w r0 b n) k r0 r0 r0 q1 q2 q3 q4 (eL L k).sl (eL L k).gn (eL L k).mr) ⟨q_lt, q_k1, sli_one (by omega), q_one, sli_pre (by omega), q_pre, ne_false, ne_false, ne_false, q_idx, q_ld, q_hold _ rfl, by simp [Qst.ok]; omega, by simp [Qst.ok]; omega, q_quo, q_seg _ rfl, q_k1, trivial⟩) (ts' := Tm a n c m r0 (prF w r0 b n) (k + 1) r0 (.agg (acC a)) (.agg (acC a)) (.agg [.int .i64 (eL L k).sl, .int .u32 (Int.ofNat (eL L k).gn), .bool (eL L k).mr]) (.agg [.int .i64 (eL L k).sl, .int .u32 (Int.ofNat (eL L k).gn), .bool (!(eL L k).mr)])) ?_ (sameBut_refl _) (eb _ rfl rfl rfl rfl)⟩
    unfold Tm
    repeat (first | exact rfl | refine ⟨_, _, rfl, ?_, ?_⟩ | exact .inr ⟨rfl, rfl⟩ | exact .inl ⟨rfl, rfl⟩)
  exfalso
  cases x : anyK b k <;> cases y : b k <;> simp_all
end Go.Proofs.YtipadnlhcnmgaaaDoor.ghostsMore
