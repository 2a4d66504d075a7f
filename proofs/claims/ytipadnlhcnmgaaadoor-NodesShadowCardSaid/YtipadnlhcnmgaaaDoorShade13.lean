/- What both shadows tell of an access, of a slot, and of a ref, in memory. Conditions: those that each theorem names, and no others. -/
import Derived.Test.YtipadnlhcnmgaaaDoorShade12
namespace Go.Proofs.YtipadnlhcnmgaaaDoor.nodesShadow
open Go Go.Mini
section
variable (m : Nat) (es : List (Int × Nat)) (bn : List Nat) (ck : Nat) (W : List Nat) (rest : List (Nat × AObj))
theorem po_call (hE : Env rest) (hA : Ag es W) (n : Int) (esc esc' : Option Nat) (Wl : List Nat) :
    Sound Tryd.prog (.call 37 [.ptr 5 0, .int .i64 n] ⟨⟨Fs m es bn ck W rest, 7, esc, Wl⟩, 7⟩) ⟨.ret, [headT (getE es n)], ⟨⟨Fs m es bn ck W rest, 7, esc', [] ++ Wl⟩, 7⟩⟩ := by
  obtain ⟨r0, h0⟩ := hE.g0
  obtain ⟨r1, h1⟩ := hE.g1
  have hd := fun (s : AS) (g0 : s.get 0 = some (.cells r0 wf)) (g1 : s.get 1 = some (.cells r1 lf)) => phead _ (hA.w_lt n) s (hasG_of g0 g1).2
  exact keep7 (l := []) (runX_sound mixed none_sound (po n m (mE es) [] bn [] ck 0 (wC W) [] rest (getE es n) 0 0 (hs (getE es n)) (hg (getE es n))) ⟨lk_mE rfl, hd _ h0 h1, trivial⟩) rfl hE.olds (.inr rfl) (.inr rfl) esc esc' Wl
theorem head0 : headT 0 = .tuple [.int .u8 (Int.ofNat 0), .int .u32 (Int.ofNat 0)] := rfl
theorem in_of {n : Int} (h : 0 ≤ n ∧ n < 256) : ∃ k, k < 256 ∧ n = Int.ofNat k := ⟨n.toNat, by omega, by simp only [Int.ofNat_eq_natCast]; omega⟩
theorem ro_call (hE : Env rest) (hA : Ag es W) (n : Int) (esc esc' : Option Nat) (Wl : List Nat) :
    Sound Tryd.prog (.call 38 [.ptr 6 0, .int .i64 n] ⟨⟨Fs m es bn ck W rest, 7, esc, Wl⟩, 7⟩) ⟨.ret, [headT (getE es n)], ⟨⟨Fs m es bn ck W rest, 7, esc', [] ++ Wl⟩, 7⟩⟩ := by
  by_cases hr : 0 ≤ n ∧ n < 256
  · obtain ⟨k, hk, rfl⟩ := in_of hr
    have hl : k < W.length := by rw [hA.len]; exact hk
    have ld := fun (s : AS) (x : AV) (hs : s.get 6 = some (.cells false (x :: wC W))) => ld_wC (k := k) hs hl
    rw [hA.at_ k hk] at ld
    exact keep7 (l := []) (runX_sound mixed none_sound (ro_3 (Int.ofNat k) m (mE es) [] bn [] ck 0 (wC W) [] rest (getE es (Int.ofNat k)) k 0 (hs (getE es (Int.ofNat k))) (hg (getE es (Int.ofNat k))))
      ⟨by simp [Qst.ok] <;> omega, by simp [Qst.ok] <;> omega, ix_wC hk, ld _ _ rfl, fun s _ => rhead _ (hA.w_lt _) s, trivial⟩) rfl hE.olds (.inr rfl) (.inr rfl) esc esc' Wl
  · have hz : getE es n = 0 := by rw [hA.eq, if_neg hr]
    rw [hz, head0]
    by_cases h0 : n < 0
    · exact keep7 (l := []) (runX_sound mixed none_sound (ro_1 n m (mE es) [] bn [] ck 0 (wC W) [] rest 0 0 0 0 0) ⟨by simp [Qst.ok] <;> omega, trivial⟩) rfl hE.olds (.inr rfl) (.inr rfl) esc esc' Wl
    · exact keep7 (l := []) (runX_sound mixed none_sound (ro_2 n m (mE es) [] bn [] ck 0 (wC W) [] rest 0 0 0 0 0) ⟨by simp [Qst.ok] <;> omega, by simp [Qst.ok] <;> omega, trivial⟩) rfl hE.olds (.inr rfl) (.inr rfl) esc esc' Wl
def fnB (w gn : Nat) : Bool := decide ((hs w = 1 ∨ hs w = 2) ∧ hg w = gn)
theorem beq_dec (x y : Nat) : (Qst.val (some (AV.bool (Int.ofNat x == Int.ofNat y))) (AV.bool (decide (x = y)))).ok Tryd.prog := by
  by_cases h : x = y
  · simp [Qst.ok, h]
  · simp [Qst.ok, h]; omega
theorem eqT (x k : Nat) (h : x = k) : (Qst.val (some (AV.bool (Int.ofNat x == Int.ofNat k))) (AV.bool true)).ok Tryd.prog := by simp [Qst.ok, h]
theorem eqF (x k : Nat) (h : x ≠ k) : (Qst.val (some (AV.bool (Int.ofNat x == Int.ofNat k))) (AV.bool false)).ok Tryd.prog := by simp [Qst.ok] <;> omega
theorem pf_call (hE : Env rest) (hA : Ag es W) (n : Int) (gn : Nat) (mk : Bool) (esc esc' : Option Nat) (Wl : List Nat) :
    Sound Tryd.prog (.call 30 [.ptr 5 0, .agg [.int .i64 n, .int .u32 (Int.ofNat gn), .bool mk]] ⟨⟨Fs m es bn ck W rest, 7, esc, Wl⟩, 7⟩) ⟨.ret, [.bool (fnB (getE es n) gn)], ⟨⟨Fs m es bn ck W rest, 7, esc', [] ++ Wl⟩, 7⟩⟩ := by
  obtain ⟨r0, h0⟩ := hE.g0
  obtain ⟨r1, h1⟩ := hE.g1
  have hw := hA.w_lt n
  have lk := fun (s : AS) (hs : s.get 4 = some (.map (mE es) bn ck)) => lk_mE (n := n) hs
  generalize getE es n = w at lk hw
  have hd := fun (s : AS) (g0 : s.get 0 = some (.cells r0 wf)) (g1 : s.get 1 = some (.cells r1 lf)) => phead w hw s (hasG_of g0 g1).2
  by_cases w1 : hs w = 1
  · rw [show fnB w gn = decide (hg w = gn) from by simp [fnB, w1]]
    exact keep7 (l := []) (runX_sound mixed none_sound (pf_1 n gn mk _ m (mE es) [] bn [] ck 0 (wC W) [] rest w 0 0 (hs w) (hg w)) ⟨lk _ rfl, hd _ h0 h1, eqT _ _ w1, beq_dec _ _, trivial⟩) rfl hE.olds (.inr rfl) (.inr rfl) esc esc' Wl
  by_cases w2 : hs w = 2
  · rw [show fnB w gn = decide (hg w = gn) from by simp [fnB, w2]]
    exact keep7 (l := []) (runX_sound mixed none_sound (pf_2 n gn mk _ m (mE es) [] bn [] ck 0 (wC W) [] rest w 0 0 (hs w) (hg w)) ⟨lk _ rfl, hd _ h0 h1, eqF _ _ w1, eqT _ _ w2, beq_dec _ _, trivial⟩) rfl hE.olds (.inr rfl) (.inr rfl) esc esc' Wl
  · rw [show fnB w gn = false from by simp [fnB, w1, w2]]
    exact keep7 (l := []) (runX_sound mixed none_sound (pf_3 n gn mk false m (mE es) [] bn [] ck 0 (wC W) [] rest w 0 0 (hs w) (hg w)) ⟨lk _ rfl, hd _ h0 h1, eqF _ _ w1, eqF _ _ w2, trivial⟩) rfl hE.olds (.inr rfl) (.inr rfl) esc esc' Wl
theorem rf_call (hE : Env rest) (hA : Ag es W) (n : Int) (gn : Nat) (mk : Bool) (esc esc' : Option Nat) (Wl : List Nat) :
    Sound Tryd.prog (.call 41 [.ptr 6 0, .agg [.int .i64 n, .int .u32 (Int.ofNat gn), .bool mk]] ⟨⟨Fs m es bn ck W rest, 7, esc, Wl⟩, 7⟩) ⟨.ret, [.bool (fnB (getE es n) gn)], ⟨⟨Fs m es bn ck W rest, 7, esc', [] ++ Wl⟩, 7⟩⟩ := by
  by_cases hr : 0 ≤ n ∧ n < 256
  · obtain ⟨k, hk, rfl⟩ := in_of hr
    have hl : k < W.length := by rw [hA.len]; exact hk
    have ld := fun (s : AS) (x : AV) (hs : s.get 6 = some (.cells false (x :: wC W))) => ld_wC (k := k) hs hl
    rw [hA.at_ k hk] at ld
    have hw := hA.w_lt (Int.ofNat k)
    generalize getE es (Int.ofNat k) = w at ld hw
    have n0 : (Qst.val (some (AV.bool (decide (Int.ofNat k < 0)))) (AV.bool false)).ok Tryd.prog := by simp [Qst.ok] <;> omega
    have n1 : (Qst.val (some (AV.bool (decide (Int.ofNat k > 255)))) (AV.bool false)).ok Tryd.prog := by simp [Qst.ok] <;> omega
    have hd := fun (s : AS) (_ : hasG s [] = true) => rhead w hw s
    by_cases w1 : hs w = 1
    · rw [show fnB w gn = decide (hg w = gn) from by simp [fnB, w1]]
      exact keep7 (l := []) (runX_sound mixed none_sound (rf_31 (Int.ofNat k) gn mk _ m (mE es) [] bn [] ck 0 (wC W) [] rest w k 0 (hs w) (hg w)) ⟨n0, n1, ix_wC hk, ld _ _ rfl, hd, ix_wC hk, ld _ _ rfl, hd, eqT _ _ w1, beq_dec _ _, trivial⟩) rfl hE.olds (.inr rfl) (.inr rfl) esc esc' Wl
    by_cases w2 : hs w = 2
    · rw [show fnB w gn = decide (hg w = gn) from by simp [fnB, w2]]
      exact keep7 (l := []) (runX_sound mixed none_sound (rf_32 (Int.ofNat k) gn mk _ m (mE es) [] bn [] ck 0 (wC W) [] rest w k 0 (hs w) (hg w)) ⟨n0, n1, ix_wC hk, ld _ _ rfl, hd, ix_wC hk, ld _ _ rfl, hd, eqF _ _ w1, eqT _ _ w2, beq_dec _ _, trivial⟩) rfl hE.olds (.inr rfl) (.inr rfl) esc esc' Wl
    · rw [show fnB w gn = false from by simp [fnB, w1, w2]]
      exact keep7 (l := []) (runX_sound mixed none_sound (rf_33 (Int.ofNat k) gn mk false m (mE es) [] bn [] ck 0 (wC W) [] rest w k 0 (hs w) (hg w)) ⟨n0, n1, ix_wC hk, ld _ _ rfl, hd, ix_wC hk, ld _ _ rfl, hd, eqF _ _ w1, eqF _ _ w2, trivial⟩) rfl hE.olds (.inr rfl) (.inr rfl) esc esc' Wl
  · have hz : getE es n = 0 := by rw [hA.eq, if_neg hr]
    rw [hz, show fnB 0 gn = false from rfl]
    by_cases h0 : n < 0
    · exact keep7 (l := []) (runX_sound mixed none_sound (rf_1 n gn mk false m (mE es) [] bn [] ck 0 (wC W) [] rest 0 0 0 0 0) ⟨by simp [Qst.ok] <;> omega, trivial⟩) rfl hE.olds (.inr rfl) (.inr rfl) esc esc' Wl
    · exact keep7 (l := []) (runX_sound mixed none_sound (rf_2 n gn mk false m (mE es) [] bn [] ck 0 (wC W) [] rest 0 0 0 0 0) ⟨by simp [Qst.ok] <;> omega, by simp [Qst.ok] <;> omega, trivial⟩) rfl hE.olds (.inr rfl) (.inr rfl) esc esc' Wl
/-- What is told of an access; w: the header of its slot. -/
def ftF (a : Ac) (m w : Nat) : Nat :=
  if a.ak = 9 ∧ 0 ≤ a.pl ∧ a.pl < 256 then (if a.fd = 0 then (if a.nw ≠ a.wa ∧ ofF a.wa a.nw m = 0 then 1 else 0) else if (a.fd = 5 ∨ a.fd = 6 ∨ a.fd = 7) ∧ ¬ (hs w = 1 ∨ hs w = 2) then 2 else 0) else 0
def bnA (a : Ac) (es : List (Int × Nat)) (bn : List Nat) (ck : Nat) : List Nat := if upd a then bnN es bn ck a.pl else bn
def ckA (a : Ac) (es : List (Int × Nat)) (ck : Nat) : Nat := if upd a then ckN es ck a.pl else ck
theorem pq (b : Bool) (p : Prop) [Decidable p] (h : decide p = b) : (Qst.val (some (AV.bool (decide p))) (AV.bool b)).ok Tryd.prog := by simp only [Qst.ok, h]
theorem saw_call (hE : Env rest) (hA : Ag es W) (a : Ac) (hwa : a.wa < 18446744073709551616) (hv : a.nw < 18446744073709551616) (hm : m < 4294967296) (esc esc' : Option Nat) (Wl : List Nat) :
    Sound Tryd.prog (.call 28 [.ptr 5 0, .agg (acC a)] ⟨⟨Fs m es bn ck W rest, 7, esc, Wl⟩, 7⟩) ⟨.ret, [.int .u8 (Int.ofNat (ftF a m (getE es a.pl)))], ⟨⟨Fs m (esN a es) (bnA a es bn ck) (ckA a es ck) W rest, 7, esc', [4] ++ Wl⟩, 7⟩⟩ := by
  obtain ⟨r0, h0⟩ := hE.g0
  obtain ⟨r1, h1⟩ := hE.g1
  have sl := fun (s : AS) (_ : hasG s [] = true) => slot_call a.pl s
  by_cases hk : a.ak = 9
  case neg =>
    have hu : ¬ upd a := fun h => hk h.1
    rw [show ftF a m (getE es a.pl) = 0 from by unfold ftF; rw [if_neg (fun h => hk h.1)], show esN a es = es from if_neg hu, show bnA a es bn ck = bn from if_neg hu, show ckA a es ck = ck from if_neg hu]
    exact keep7 (l := []) (runX_sound mixed none_sound (sw_A a m (mE es) [] bn [] ck 0 (wC W) [] rest 0 0 0 0 0) ⟨by simp [Qst.ok] <;> omega, trivial⟩) rfl hE.olds (.inr rfl) (.inr rfl) esc esc' Wl
  have q9 : (Qst.val (some (AV.bool (a.ak != Int.ofNat 9))) (AV.bool false)).ok Tryd.prog := by simp [Qst.ok, hk]
  by_cases hr : 0 ≤ a.pl ∧ a.pl < 256
  case neg =>
    rw [show decide (0 ≤ a.pl ∧ a.pl < 256) = false from by simpa using hr] at sl
    have hu : ¬ upd a := fun h => hr h.2.1
    rw [show ftF a m (getE es a.pl) = 0 from by unfold ftF; rw [if_neg (fun h => hr h.2)], show esN a es = es from if_neg hu, show bnA a es bn ck = bn from if_neg hu, show ckA a es ck = ck from if_neg hu]
    exact keep7 (l := []) (runX_sound mixed none_sound (sw_B a m (mE es) [] bn [] ck 0 (wC W) [] rest 0 0 0 0 0) ⟨q9, sl, trivial⟩) rfl hE.olds (.inr rfl) (.inr rfl) esc esc' Wl
  rw [show decide (0 ≤ a.pl ∧ a.pl < 256) = true from by simpa using hr] at sl
  by_cases hf : a.fd = 0
  · have hu : upd a := ⟨hk, hr, hf⟩
    have qf : (Qst.val (some (AV.bool (a.fd == Int.ofNat 0))) (AV.bool true)).ok Tryd.prog := by simp [Qst.ok, hf]
    have up := fun (s : AS) (hs : s.get 4 = some (.map (mE es) bn ck)) => upd_mE (n := a.pl) a.nw hs
    rw [show esN a es = putE es a.pl a.nw from if_pos hu, show bnA a es bn ck = bnN es bn ck a.pl from if_pos hu, show ckA a es ck = ckN es ck a.pl from if_pos hu]
    by_cases ne : a.nw = a.wa
    · rw [show ftF a m (getE es a.pl) = 0 from by unfold ftF; rw [if_pos ⟨hk, hr⟩, if_pos hf, if_neg (fun h => h.1 ne)]]
      exact keep7 (l := [4]) (runX_sound mixed none_sound (sw_C0 a m (mE es) (mE (putE es a.pl a.nw)) bn (bnN es bn ck a.pl) ck (ckN es ck a.pl) (wC W) [] rest 0 0 0 0 0) ⟨q9, sl, qf, ⟨up _ rfl, rfl⟩, by simp [Qst.ok, ne], trivial⟩) rfl hE.olds (.inr rfl) (.inl (by decide)) esc esc' Wl
    · have qn : (Qst.val (some (AV.bool (Int.ofNat a.nw != Int.ofNat a.wa))) (AV.bool true)).ok Tryd.prog := by simp [Qst.ok] <;> omega
      have oc := fun (s : AS) (g0 : s.get 0 = some (.cells r0 wf)) (g1 : s.get 1 = some (.cells r1 lf)) => of_gen a.wa a.nw m hwa hv hm s (hasG_of g0 g1).1
      by_cases c0 : ofF a.wa a.nw m = 0
      · rw [show ftF a m (getE es a.pl) = 1 from by unfold ftF; rw [if_pos ⟨hk, hr⟩, if_pos hf, if_pos ⟨ne, c0⟩]]
        exact keep7 (l := [4]) (runX_sound mixed none_sound (sw_Ctrue a m (mE es) (mE (putE es a.pl a.nw)) bn (bnN es bn ck a.pl) ck (ckN es ck a.pl) (wC W) [] rest 0 0 (ofF a.wa a.nw m) 0 0) ⟨q9, sl, qf, ⟨up _ rfl, rfl⟩, qn, oc _ h0 h1, eqT _ _ c0, trivial⟩) rfl hE.olds (.inr rfl) (.inl (by decide)) esc esc' Wl
      · rw [show ftF a m (getE es a.pl) = 0 from by unfold ftF; rw [if_pos ⟨hk, hr⟩, if_pos hf, if_neg (fun h => c0 h.2)]]
        exact keep7 (l := [4]) (runX_sound mixed none_sound (sw_Cfalse a m (mE es) (mE (putE es a.pl a.nw)) bn (bnN es bn ck a.pl) ck (ckN es ck a.pl) (wC W) [] rest 0 0 (ofF a.wa a.nw m) 0 0) ⟨q9, sl, qf, ⟨up _ rfl, rfl⟩, qn, oc _ h0 h1, eqF _ _ c0, trivial⟩) rfl hE.olds (.inr rfl) (.inl (by decide)) esc esc' Wl
  have hu : ¬ upd a := fun h => hf h.2.2
  have qf : (Qst.val (some (AV.bool (a.fd == Int.ofNat 0))) (AV.bool false)).ok Tryd.prog := by simp [Qst.ok, hf]
  rw [show esN a es = es from if_neg hu, show bnA a es bn ck = bn from if_neg hu, show ckA a es ck = ck from if_neg hu]
  have hw := hA.w_lt a.pl
  have lk := fun (s : AS) (hs : s.get 4 = some (.map (mE es) bn ck)) => lk_mE (n := a.pl) hs
  generalize getE es a.pl = w at lk hw
  have hd := fun (s : AS) (g0 : s.get 0 = some (.cells r0 wf)) (g1 : s.get 1 = some (.cells r1 lf)) => phead w hw s (hasG_of g0 g1).2
  have fq : ∀ k b, (a.fd == Int.ofNat k) = b → (Qst.val (some (AV.bool (a.fd == Int.ofNat k))) (AV.bool b)).ok Tryd.prog := fun k b h => by simp only [Qst.ok, h]
  have fT : ∀ k : Nat, a.fd = Int.ofNat k → (a.fd == Int.ofNat k) = true := fun k h => by rw [h]; simp
  have fF : ∀ k : Nat, a.fd ≠ Int.ofNat k → (a.fd == Int.ofNat k) = false := fun k h => by simpa using h
  have val0 : (hs w = 1 ∨ hs w = 2) → ftF a m w = 0 := fun h => by unfold ftF; rw [if_pos ⟨hk, hr⟩, if_neg hf, if_neg (fun g => g.2 h)]
  have val2 : (a.fd = 5 ∨ a.fd = 6 ∨ a.fd = 7) → hs w ≠ 1 → hs w ≠ 2 → ftF a m w = 2 := fun h g1 g2 => by unfold ftF; rw [if_pos ⟨hk, hr⟩, if_neg hf, if_pos ⟨h, fun g => by rcases g with g | g; exact g1 g; exact g2 g⟩]
  by_cases f5 : a.fd = 5
  · have t5 := fq 5 _ (fT 5 f5)
    by_cases w1 : hs w = 1
    · rw [val0 (.inl w1)]
      exact keep7 (l := []) (runX_sound mixed none_sound (sw_D51 a m (mE es) [] bn [] ck 0 (wC W) [] rest w 0 0 (hs w) (hg w)) ⟨q9, sl, qf, t5, lk _ rfl, hd _ h0 h1, eqT _ _ w1, trivial⟩) rfl hE.olds (.inr rfl) (.inr rfl) esc esc' Wl
    by_cases w2 : hs w = 2
    · rw [val0 (.inr w2)]
      exact keep7 (l := []) (runX_sound mixed none_sound (sw_D52 a m (mE es) [] bn [] ck 0 (wC W) [] rest w 0 0 (hs w) (hg w)) ⟨q9, sl, qf, t5, lk _ rfl, hd _ h0 h1, eqF _ _ w1, eqT _ _ w2, trivial⟩) rfl hE.olds (.inr rfl) (.inr rfl) esc esc' Wl
    · rw [val2 (.inl f5) w1 w2]
      exact keep7 (l := []) (runX_sound mixed none_sound (sw_D53 a m (mE es) [] bn [] ck 0 (wC W) [] rest w 0 0 (hs w) (hg w)) ⟨q9, sl, qf, t5, lk _ rfl, hd _ h0 h1, eqF _ _ w1, eqF _ _ w2, trivial⟩) rfl hE.olds (.inr rfl) (.inr rfl) esc esc' Wl
  have n5 := fq 5 _ (fF 5 f5)
  by_cases f6 : a.fd = 6
  · have t6 := fq 6 _ (fT 6 f6)
    by_cases w1 : hs w = 1
    · rw [val0 (.inl w1)]
      exact keep7 (l := []) (runX_sound mixed none_sound (sw_D61 a m (mE es) [] bn [] ck 0 (wC W) [] rest w 0 0 (hs w) (hg w)) ⟨q9, sl, qf, n5, t6, lk _ rfl, hd _ h0 h1, eqT _ _ w1, trivial⟩) rfl hE.olds (.inr rfl) (.inr rfl) esc esc' Wl
    by_cases w2 : hs w = 2
    · rw [val0 (.inr w2)]
      exact keep7 (l := []) (runX_sound mixed none_sound (sw_D62 a m (mE es) [] bn [] ck 0 (wC W) [] rest w 0 0 (hs w) (hg w)) ⟨q9, sl, qf, n5, t6, lk _ rfl, hd _ h0 h1, eqF _ _ w1, eqT _ _ w2, trivial⟩) rfl hE.olds (.inr rfl) (.inr rfl) esc esc' Wl
    · rw [val2 (.inr (.inl f6)) w1 w2]
      exact keep7 (l := []) (runX_sound mixed none_sound (sw_D63 a m (mE es) [] bn [] ck 0 (wC W) [] rest w 0 0 (hs w) (hg w)) ⟨q9, sl, qf, n5, t6, lk _ rfl, hd _ h0 h1, eqF _ _ w1, eqF _ _ w2, trivial⟩) rfl hE.olds (.inr rfl) (.inr rfl) esc esc' Wl
  have n6 := fq 6 _ (fF 6 f6)
  by_cases f7 : a.fd = 7
  · have t7 := fq 7 _ (fT 7 f7)
    by_cases w1 : hs w = 1
    · rw [val0 (.inl w1)]
      exact keep7 (l := []) (runX_sound mixed none_sound (sw_D71 a m (mE es) [] bn [] ck 0 (wC W) [] rest w 0 0 (hs w) (hg w)) ⟨q9, sl, qf, n5, n6, t7, lk _ rfl, hd _ h0 h1, eqT _ _ w1, trivial⟩) rfl hE.olds (.inr rfl) (.inr rfl) esc esc' Wl
    by_cases w2 : hs w = 2
    · rw [val0 (.inr w2)]
      exact keep7 (l := []) (runX_sound mixed none_sound (sw_D72 a m (mE es) [] bn [] ck 0 (wC W) [] rest w 0 0 (hs w) (hg w)) ⟨q9, sl, qf, n5, n6, t7, lk _ rfl, hd _ h0 h1, eqF _ _ w1, eqT _ _ w2, trivial⟩) rfl hE.olds (.inr rfl) (.inr rfl) esc esc' Wl
    · rw [val2 (.inr (.inr f7)) w1 w2]
      exact keep7 (l := []) (runX_sound mixed none_sound (sw_D73 a m (mE es) [] bn [] ck 0 (wC W) [] rest w 0 0 (hs w) (hg w)) ⟨q9, sl, qf, n5, n6, t7, lk _ rfl, hd _ h0 h1, eqF _ _ w1, eqF _ _ w2, trivial⟩) rfl hE.olds (.inr rfl) (.inr rfl) esc esc' Wl
  · rw [show ftF a m w = 0 from by unfold ftF; rw [if_pos ⟨hk, hr⟩, if_neg hf, if_neg (fun g => by rcases g.1 with g | g | g; exact f5 g; exact f6 g; exact f7 g)]]
    exact keep7 (l := []) (runX_sound mixed none_sound (sw_E a m (mE es) [] bn [] ck 0 (wC W) [] rest 0 0 0 0 0) ⟨q9, sl, qf, n5, n6, fq 7 _ (fF 7 f7), trivial⟩) rfl hE.olds (.inr rfl) (.inr rfl) esc esc' Wl
/-- The document's; its map is the program's, as it stands behind the step. -/
theorem rsaw_call (W0 : List Nat) (es0 : List (Int × Nat)) (hE : Env rest) (hA : Ag es0 W0) (a : Ac) (hwa : a.wa < 18446744073709551616) (hm : m < 4294967296) (esc esc' : Option Nat) (Wl : List Nat) :
    Sound Tryd.prog (.call 36 [.ptr 6 0, .agg (acC a)] ⟨⟨Fs m es bn ck W0 rest, 7, esc, Wl⟩, 7⟩) ⟨.ret, [.int .i64 (Int.ofNat (ftF a m (getE es0 a.pl)))], ⟨⟨Fs m es bn ck (WN a W0) rest, 7, esc', [6] ++ Wl⟩, 7⟩⟩ := by
  by_cases hk : a.ak = 9
  case neg =>
    have hu : ¬ upd a := fun h => hk h.1
    rw [show ftF a m (getE es0 a.pl) = 0 from by unfold ftF; rw [if_neg (fun h => hk h.1)], show WN a W0 = W0 from if_neg hu]
    exact keep7 (l := []) (runX_sound mixed none_sound (rw_A a m (mE es) [] bn [] ck 0 (wC W0) [] rest 0 0 0 0 0) ⟨by simp [Qst.ok] <;> omega, trivial⟩) rfl hE.olds (.inr rfl) (.inr rfl) esc esc' Wl
  have q9 : (Qst.val (some (AV.bool (a.ak != Int.ofNat 9))) (AV.bool false)).ok Tryd.prog := by simp [Qst.ok, hk]
  by_cases hr : 0 ≤ a.pl ∧ a.pl < 256
  case neg =>
    have hu : ¬ upd a := fun h => hr h.2.1
    rw [show ftF a m (getE es0 a.pl) = 0 from by unfold ftF; rw [if_neg (fun h => hr h.2)], show WN a W0 = W0 from if_neg hu]
    by_cases h0 : a.pl < 0
    · exact keep7 (l := []) (runX_sound mixed none_sound (rw_B1 a m (mE es) [] bn [] ck 0 (wC W0) [] rest 0 0 0 0 0) ⟨q9, by simp [Qst.ok] <;> omega, trivial⟩) rfl hE.olds (.inr rfl) (.inr rfl) esc esc' Wl
    · exact keep7 (l := []) (runX_sound mixed none_sound (rw_B2 a m (mE es) [] bn [] ck 0 (wC W0) [] rest 0 0 0 0 0) ⟨q9, by simp [Qst.ok] <;> omega, by simp [Qst.ok] <;> omega, trivial⟩) rfl hE.olds (.inr rfl) (.inr rfl) esc esc' Wl
  have n0 : (Qst.val (some (AV.bool (decide (a.pl < 0)))) (AV.bool false)).ok Tryd.prog := by simp [Qst.ok] <;> omega
  have n1 : (Qst.val (some (AV.bool (decide (a.pl > 255)))) (AV.bool false)).ok Tryd.prog := by simp [Qst.ok] <;> omega
  obtain ⟨k, hk2, hpk⟩ := in_of hr
  have hl : k < W0.length := by rw [hA.len]; exact hk2
  have ix : indexAddrA Tryd.prog 88 (.ptr 6 1) (.int .i64 a.pl) = some (.ptr 6 (1 + k)) := by rw [hpk]; exact ix_wC hk2
  have tn : a.pl.toNat = k := by rw [hpk]; rfl
  by_cases hf : a.fd = 0
  · have hu : upd a := ⟨hk, hr, hf⟩
    have qf : (Qst.val (some (AV.bool (a.fd == Int.ofNat 0))) (AV.bool true)).ok Tryd.prog := by simp [Qst.ok, hf]
    have q5 : (Qst.val (some (AV.bool (decide (a.fd ≥ 5)))) (AV.bool false)).ok Tryd.prog := by simp [Qst.ok] <;> omega
    rw [show WN a W0 = W0.set k a.nw from by unfold WN; rw [if_pos hu, tn]]
    have sto := fun (s : AS) (x : AV) (hs : s.get 6 = some (.cells false (x :: wC W0))) => sto_wC a.nw hs hl
    by_cases ne : a.nw = a.wa
    · rw [show ftF a m (getE es0 a.pl) = 0 from by unfold ftF; rw [if_pos ⟨hk, hr⟩, if_pos hf, if_neg (fun h => h.1 ne)]]
      exact keep7 (l := [6]) (runX_sound mixed none_sound (rw_C0 a m (mE es) [] bn [] ck 0 (wC W0) (wC (W0.set k a.nw)) rest 0 k 0 0 0) ⟨q9, n0, n1, qf, ix, ⟨sto _ _ rfl, rfl⟩, by simp [Qst.ok, ne], q5, trivial⟩) rfl hE.olds (.inl (by decide)) (.inr rfl) esc esc' Wl
    · have qn : (Qst.val (some (AV.bool (Int.ofNat a.nw != Int.ofNat a.wa))) (AV.bool true)).ok Tryd.prog := by simp [Qst.ok] <;> omega
      have oc := fun (s : AS) (_ : hasG s [] = true) => rof_call a.wa a.nw m hwa hm s
      by_cases c0 : ofF a.wa a.nw m = 0
      · rw [show ftF a m (getE es0 a.pl) = 1 from by unfold ftF; rw [if_pos ⟨hk, hr⟩, if_pos hf, if_pos ⟨ne, c0⟩]]
        exact keep7 (l := [6]) (runX_sound mixed none_sound (rw_Ctrue a m (mE es) [] bn [] ck 0 (wC W0) (wC (W0.set k a.nw)) rest 0 k (ofF a.wa a.nw m) 0 0) ⟨q9, n0, n1, qf, ix, ⟨sto _ _ rfl, rfl⟩, qn, oc, eqT _ _ c0, trivial⟩) rfl hE.olds (.inl (by decide)) (.inr rfl) esc esc' Wl
      · rw [show ftF a m (getE es0 a.pl) = 0 from by unfold ftF; rw [if_pos ⟨hk, hr⟩, if_pos hf, if_neg (fun h => c0 h.2)]]
        exact keep7 (l := [6]) (runX_sound mixed none_sound (rw_Cfalse a m (mE es) [] bn [] ck 0 (wC W0) (wC (W0.set k a.nw)) rest 0 k (ofF a.wa a.nw m) 0 0) ⟨q9, n0, n1, qf, ix, ⟨sto _ _ rfl, rfl⟩, qn, oc, eqF _ _ c0, q5, trivial⟩) rfl hE.olds (.inl (by decide)) (.inr rfl) esc esc' Wl
  have hu : ¬ upd a := fun h => hf h.2.2
  have qf : (Qst.val (some (AV.bool (a.fd == Int.ofNat 0))) (AV.bool false)).ok Tryd.prog := by simp [Qst.ok, hf]
  rw [show WN a W0 = W0 from if_neg hu]
  have ld := fun (s : AS) (x : AV) (hs : s.get 6 = some (.cells false (x :: wC W0))) => ld_wC (k := k) hs hl
  rw [hA.at_ k hk2, ← hpk] at ld
  have hw := hA.w_lt a.pl
  generalize getE es0 a.pl = w at ld hw
  have hd := fun (s : AS) (_ : hasG s [] = true) => rhead w hw s
  have val0 : (hs w = 1 ∨ hs w = 2) → ftF a m w = 0 := fun h => by unfold ftF; rw [if_pos ⟨hk, hr⟩, if_neg hf, if_neg (fun g => g.2 h)]
  have valn : ¬ (a.fd = 5 ∨ a.fd = 6 ∨ a.fd = 7) → ftF a m w = 0 := fun h => by unfold ftF; rw [if_pos ⟨hk, hr⟩, if_neg hf, if_neg (fun g => h g.1)]
  have val2 : (a.fd = 5 ∨ a.fd = 6 ∨ a.fd = 7) → hs w ≠ 1 → hs w ≠ 2 → ftF a m w = 2 := fun h g1 g2 => by unfold ftF; rw [if_pos ⟨hk, hr⟩, if_neg hf, if_pos ⟨h, fun g => by rcases g with g | g; exact g1 g; exact g2 g⟩]
  by_cases g5 : a.fd ≥ 5
  case neg =>
    rw [valn (by omega)]
    exact keep7 (l := []) (runX_sound mixed none_sound (rw_D0 a m (mE es) [] bn [] ck 0 (wC W0) [] rest 0 0 0 0 0) ⟨q9, n0, n1, qf, by simp [Qst.ok] <;> omega, trivial⟩) rfl hE.olds (.inr rfl) (.inr rfl) esc esc' Wl
  have q5 : (Qst.val (some (AV.bool (decide (a.fd ≥ 5)))) (AV.bool true)).ok Tryd.prog := by simp [Qst.ok] <;> omega
  by_cases g7 : a.fd ≤ 7
  case neg =>
    rw [valn (by omega)]
    exact keep7 (l := []) (runX_sound mixed none_sound (rw_D1 a m (mE es) [] bn [] ck 0 (wC W0) [] rest 0 0 0 0 0) ⟨q9, n0, n1, qf, q5, by simp [Qst.ok] <;> omega, trivial⟩) rfl hE.olds (.inr rfl) (.inr rfl) esc esc' Wl
  have q7 : (Qst.val (some (AV.bool (decide (a.fd ≤ 7)))) (AV.bool true)).ok Tryd.prog := by simp [Qst.ok] <;> omega
  by_cases w1 : hs w = 1
  · rw [val0 (.inl w1)]
    exact keep7 (l := []) (runX_sound mixed none_sound (rw_D21 a m (mE es) [] bn [] ck 0 (wC W0) [] rest w k 0 (hs w) (hg w)) ⟨q9, n0, n1, qf, q5, q7, ix, ld _ _ rfl, hd, eqT _ _ w1, trivial⟩) rfl hE.olds (.inr rfl) (.inr rfl) esc esc' Wl
  by_cases w2 : hs w = 2
  · rw [val0 (.inr w2)]
    exact keep7 (l := []) (runX_sound mixed none_sound (rw_D22 a m (mE es) [] bn [] ck 0 (wC W0) [] rest w k 0 (hs w) (hg w)) ⟨q9, n0, n1, qf, q5, q7, ix, ld _ _ rfl, hd, eqF _ _ w1, eqT _ _ w2, trivial⟩) rfl hE.olds (.inr rfl) (.inr rfl) esc esc' Wl
  · rw [val2 (by omega) w1 w2]
    exact keep7 (l := []) (runX_sound mixed none_sound (rw_D23 a m (mE es) [] bn [] ck 0 (wC W0) [] rest w k 0 (hs w) (hg w)) ⟨q9, n0, n1, qf, q5, q7, ix, ld _ _ rfl, hd, eqF _ _ w1, eqF _ _ w2, trivial⟩) rfl hE.olds (.inr rfl) (.inr rfl) esc esc' Wl
end
end Go.Proofs.YtipadnlhcnmgaaaDoor.nodesShadow
