/- One turn of the law: both shadows tell the same, and stay alike. Conditions: those that each theorem names, and no others. -/
import Derived.Test.YtipadnlhcnmgaaaDoorShade13
import Derived.Test.YtipadnlhcnmgaaaDoorShade14
namespace Go.Proofs.YtipadnlhcnmgaaaDoor.nodesShadow
open Go Go.Mini
/-- A ref. -/
structure Rf where
  sl : Int
  gn : Nat
  mr : Bool
def rC (x : Rf) : List AV := [.int .i64 x.sl, .int .u32 (Int.ofNat x.gn), .bool x.mr]
structure RowR (xr : AV) (nr : Nat) (rest : List (Nat × AObj)) (e : Nat → Rf) : Prop where
  len : ∀ s, lenA Tryd.prog s 87 xr = some (.int .i64 (Int.ofNat nr))
  at_ : ∀ k, k < nr → ∃ o, indexAddrA Tryd.prog 87 xr (.int .i64 (Int.ofNat k)) = some (.ptr 3 o) ∧ ∀ s : AS, s.get 3 = getB rest 3 → loadA Tryd.prog s 59 (.ptr 3 o) = some (.agg (rC (e k)))
  nm : xr.names (fun c => Nat.blt c 4) = true
def ac0 : Ac := ⟨0, 0, 0, 0, 0, 0, false⟩
def eA (L : List Ac) (k : Nat) : Ac := (L[k]?).getD ac0
theorem eA_at {L : List Ac} {k : Nat} (h : k < L.length) : L[k]? = some (eA L k) := by
  unfold eA
  rw [List.getElem?_eq_getElem h]
  rfl
theorem t86 : Tryd.prog.underlying 86 = some (.slice 53) := by kernel_rfl
theorem z53 : sizeA Tryd.prog 53 = some 7 := by kernel_rfl
theorem g53 : isAggA Tryd.prog 53 = some true := by kernel_rfl
theorem g3' : isAggA Tryd.prog 3 = some false := by kernel_rfl
theorem eq51_run (s : AS) (n : Int) (k : Int) : eqlA Tryd.prog s 51 (.agg [.int .u8 (Int.ofNat 9), .int .i64 n, .int .i64 k]) (.agg [.int .u8 (Int.ofNat 9), .int .i64 n, .int .i64 k]) = @Bool.rec (fun _ => Option Bool) (some false) (@Bool.rec (fun _ => Option Bool) (some false) (some true) (k == k)) (n == n) := by kernel_rfl
theorem eq51 (s : AS) (n : Int) (k : Int) : ∃ r, eqlA Tryd.prog s 51 (.agg [.int .u8 (Int.ofNat 9), .int .i64 n, .int .i64 k]) (.agg [.int .u8 (Int.ofNat 9), .int .i64 n, .int .i64 k]) = some r ∧ AV.bool false = .bool (if false = true then r else !r) := by
  refine ⟨true, ?_, rfl⟩
  rw [eq51_run, beq_self_eq_true, beq_self_eq_true]
theorem see7 {x : AV} (h : x.names (fun c => Nat.blt c 7) = true) : x.names (fun c => Nat.blt c 7) = true ∧ x = x.ren (fun b => b) := ⟨h, (ren_id x).symm⟩
theorem nm7 {x : AV} {n : Nat} (h : x.names (fun c => Nat.blt c n) = true) (hn : n ≤ 7) : x.names (fun c => Nat.blt c 7) = true := names_lt h hn
theorem nn7 {x : AV} (h : x.names (fun _ => false) = true) : x.names (fun c => Nat.blt c 7) = true := names_sub (fun _ h => by cases h) h
theorem ft_le (a : Ac) (m w : Nat) : ftF a m w ≤ 2 := by
  unfold ftF
  repeat (first | omega | split)

def RefArg (xr : AV) (nr : Nat) (rest : List (Nat × AObj)) (e : Nat → Rf) : Prop := (∃ cr, xr = .slice 3 0 nr cr ∧ RowR xr nr rest e) ∨ (xr = .nilSlice ∧ nr = 0)
theorem t87 : Tryd.prog.underlying 87 = some (.slice 59) := by kernel_rfl
theorem RefArg.len {xr : AV} {nr : Nat} {rest : List (Nat × AObj)} {e : Nat → Rf} (h : RefArg xr nr rest e) (s : AS) : lenA Tryd.prog s 87 xr = some (.int .i64 (Int.ofNat nr)) := by
  rcases h with ⟨cr, rfl, hr⟩ | ⟨rfl, rfl⟩
  · exact hr.len s
  · simp only [lenA, t87]; rfl
theorem RefArg.nm {xr : AV} {nr : Nat} {rest : List (Nat × AObj)} {e : Nat → Rf} (h : RefArg xr nr rest e) : xr.names (fun c => Nat.blt c 7) = true := by
  rcases h with ⟨cr, rfl, hr⟩ | ⟨rfl, rfl⟩ <;> rfl
def jN (a : Ac) (r : AV) (i : Nat) : AV := match i with
  | 38 => .agg (acC a)
  | 44 => .agg (acC a)
  | 74 => .agg [.int .u8 (Int.ofNat 9), .int .i64 a.pl, .int .i64 (Int.ofNat 5)]
  | 76 => .agg [.int .u8 (Int.ofNat 9), .int .i64 a.pl, .int .i64 (Int.ofNat 5)]
  | 81 => .agg [.int .u8 (Int.ofNat 9), .int .i64 a.pl, .int .i64 (Int.ofNat 6)]
  | 83 => .agg [.int .u8 (Int.ofNat 9), .int .i64 a.pl, .int .i64 (Int.ofNat 6)]
  | 88 => .agg [.int .u8 (Int.ofNat 9), .int .i64 a.pl, .int .i64 (Int.ofNat 7)]
  | 90 => .agg [.int .u8 (Int.ofNat 9), .int .i64 a.pl, .int .i64 (Int.ofNat 7)]
  | 102 => r
  | 107 => r
  | _ => undefA
theorem jN_nm (a : Ac) (r : AV) (hr : r.names (fun _ => false) = true) (i : Nat) : (jN a r i).names (fun _ => false) = true := by
  unfold jN
  split <;> first | rfl | exact hr
theorem k39 (n : Int) (s : AS) (_ : hasG s [] = true) : Sound Tryd.prog (.call 39 [.int .i64 n] s) ⟨.ret, [.agg [.int .u8 (Int.ofNat 9), .int .i64 n, .int .i64 (Int.ofNat 5)]], s⟩ := Sound.pure (G := []) (runX_sound mixed none_sound (ky_39 n) trivial) rfl rfl rfl rfl
theorem k40 (n : Int) (s : AS) (_ : hasG s [] = true) : Sound Tryd.prog (.call 40 [.int .i64 n] s) ⟨.ret, [.agg [.int .u8 (Int.ofNat 9), .int .i64 n, .int .i64 (Int.ofNat 6)]], s⟩ := Sound.pure (G := []) (runX_sound mixed none_sound (ky_40 n) trivial) rfl rfl rfl rfl
theorem k29 (n : Int) (s : AS) (_ : hasG s [] = true) : Sound Tryd.prog (.call 29 [.int .i64 n] s) ⟨.ret, [.agg [.int .u8 (Int.ofNat 9), .int .i64 n, .int .i64 (Int.ofNat 7)]], s⟩ := Sound.pure (G := []) (runX_sound mixed none_sound (ky_29 n) trivial) rfl rfl rfl rfl
set_option maxRecDepth 4000 in
theorem gd_step (La : List Ac) (hLa : ∀ k, (eA La k).wa < 18446744073709551616 ∧ (eA La k).nw < 18446744073709551616) (n c : Nat) (hn : n ≤ La.length) (hn' : n < 1000) (rest : List (Nat × AObj)) (hE : Env rest) (r2 : Bool) (h2 : getB rest 2 = some (.cells r2 (rowsOf acC La)))
    (xr : AV) (nr : Nat) (e : Nat → Rf) (hx : RefArg xr nr rest e) (m : Nat) (hm : m < 4294967296) (q : AV) (hq : q.names (fun _ => false) = true)
    (k : Nat) (hk : k < n) (es : List (Int × Nat)) (bn : List Nat) (ck : Nat) (W : List Nat) (hA : Ag es W) (j : Nat → AV) :
    ∃ j', (∀ i, (j' i).names (fun _ => false) = true) ∧ SoundL Tryd.prog [6, 4] (loopAt Tryd.prog 8 0) (Td (.slice 2 0 n c) xr m k q j) (Fs m es bn ck W rest) 7 7 .normal (Td (.slice 2 0 n c) xr m (k + 1) q j') (Fs m (esN (eA La k) es) (bnA (eA La k) es bn ck) (ckA (eA La k) es ck) (WN (eA La k) W) rest) := by
  have hA1 := hA.next (eA La k) (hLa k).2
  have hat := eA_at (L := La) (k := k) (by omega)
  have g2 : ∀ s : AS, s.get 2 = getB rest 2 → loadA Tryd.prog s 53 (.ptr 2 (k * 7)) = some (.agg (acC (eA La k))) ∧ loadA Tryd.prog s 3 (.ptr 2 (k * 7 + 1 + 1)) = some (.int .i64 (eA La k).pl) := fun s hs =>
    ⟨ld_row (P := Tryd.prog) (f := acC) (n := 7) (fun _ => rfl) g53 z53 (hs.trans h2) hat, ld_rowCell (P := Tryd.prog) (f := acC) (n := 7) (i := 2) (fun _ => rfl) g3' (hs.trans h2) hat rfl⟩
  have ix : indexAddrA Tryd.prog 86 (.slice 2 0 n c) (.int .i64 (Int.ofNat k)) = some (.ptr 2 (k * 7)) := by
    have := idx_slice (P := Tryd.prog) (b := 2) (o := 0) (cap := c) (kk := .i64) t86 z53 hk
    rwa [Nat.zero_add] at this
  have q0 : (Qst.val (some (AV.bool (decide (Int.ofNat k < ((n : Nat) : Int))))) (AV.bool true)).ok Tryd.prog := by simp [Qst.ok]; omega
  have qn : (Qst.val (some (AV.int .i64 (IntKind.i64.wrap (Int.ofNat k + Int.ofNat 1)))) (AV.int .i64 (Int.ofNat (k + 1)))).ok Tryd.prog := by
    simp only [Qst.ok]
    rw [i64_wrap (by simp only [Int.ofNat_eq_natCast]; omega) (by simp only [Int.ofNat_eq_natCast]; omega)]
    rfl
  have wlt := hA.w_lt
  generalize hag : eA La k = a at hA1
  have hwa := (hLa k).1
  have hnw := (hLa k).2
  rw [hag] at g2 hwa hnw
  have aw := hA1.w_lt a.pl
  let S1 : AS := ⟨⟨Fs m (esN a es) (bnA a es bn ck) (ckA a es ck) (WN a W) rest, 7, none, [6, 4]⟩, 7⟩
  have s28 := saw_call m es bn ck W rest hE hA a hwa hnw hm none none []
  have s36 := rsaw_call m (esN a es) (bnA a es bn ck) (ckA a es ck) rest W es hE hA a hwa hm none none [4]
  have s37 := po_call m (esN a es) (bnA a es bn ck) (ckA a es ck) (WN a W) rest hE hA1 a.pl none none [6, 4]
  have s38 := ro_call m (esN a es) (bnA a es bn ck) (ckA a es ck) (WN a W) rest hE hA1 a.pl none none [6, 4]
  have b2 : ∀ (x y z : Nat × AObj) (len nx : Nat) (wr : List Nat), x.1 = 6 → y.1 = 5 → z.1 = 4 → AS.get ⟨⟨x :: y :: z :: rest, len, none, wr⟩, nx⟩ 2 = getB rest 2 := by
    rintro ⟨_, x⟩ ⟨_, y⟩ ⟨_, z⟩ len nx wr rfl rfl rfl
    rfl
  have b3 : ∀ (x y z : Nat × AObj) (len nx : Nat) (wr : List Nat), x.1 = 6 → y.1 = 5 → z.1 = 4 → AS.get ⟨⟨x :: y :: z :: rest, len, none, wr⟩, nx⟩ 3 = getB rest 3 := by
    rintro ⟨_, x⟩ ⟨_, y⟩ ⟨_, z⟩ len nx wr rfl rfl rfl
    rfl
  have ld0 := (g2 ⟨⟨Fs m es bn ck W rest, 7, none, []⟩, 7⟩ (b2 _ _ _ _ _ _ rfl rfl rfl)).1
  have ld1 := (g2 S1 (b2 _ _ _ _ _ _ rfl rfl rfl)).2
  have qs : ∀ x : Nat, (Qst.val (some (AV.bool (Int.ofNat x != Int.ofNat x))) (AV.bool false)).ok Tryd.prog := fun x => by simp [Qst.ok]
  have hw2 : ftF a m (getE es a.pl) ≤ 4 := Nat.le_trans (ft_le _ _ _) (by decide)
  have wft : (Qst.val (some (AV.int .i64 (IntKind.i64.wrap (Int.ofNat (ftF a m (getE es a.pl)))))) (AV.int .i64 (Int.ofNat (ftF a m (getE es a.pl))))).ok Tryd.prog := by
    simp only [Qst.ok]
    rw [i64_wrap (by simp only [Int.ofNat_eq_natCast]; omega) (by simp only [Int.ofNat_eq_natCast]; omega)]
  have fin : ∀ (r : AV) (s1 : AS) (ts1 : List AV), r.names (fun _ => false) = true → Sound Tryd.prog (.code (loopAt Tryd.prog 8 0) (Td (.slice 2 0 n c) xr m k q j) ⟨⟨Fs m es bn ck W rest, 7, none, []⟩, 7⟩) ⟨.normal, ts1, s1⟩ → s1.h.bs = Fs m (esN a es) (bnA a es bn ck) (ckA a es ck) (WN a W) rest →
      seesT (fun b => b) (fun c => Nat.blt c 7) (Td (.slice 2 0 n c) xr m (k + 1) q (jN a r)) ts1 →
      SoundL Tryd.prog [6, 4] (loopAt Tryd.prog 8 0) (Td (.slice 2 0 n c) xr m k q j) (Fs m es bn ck W rest) 7 7 .normal (Td (.slice 2 0 n c) xr m (k + 1) q (jN a r)) (Fs m (esN a es) (bnA a es bn ck) (ckA a es ck) (WN a W) rest) := by
    intro r s1 ts1 hr h hb hts
    refine SoundL.intro h hts ⟨_, _, rfl, rfl, .inl rfl, ⟨_, _, rfl, rfl, .inr rfl, ⟨_, _, rfl, rfl, .inl rfl, sameBut_any _ _⟩⟩⟩ ?_
    have g : ∀ b, s1.get b = getB (Fs m (esN a es) (bnA a es bn ck) (ckA a es ck) (WN a W) rest) b := fun b => by show getB s1.h.bs b = _; rw [hb]
    refine ⟨⟨wC_names _, (g 6).trans rfl⟩, ⟨rfl, (g 5).trans rfl⟩, ⟨mE_names _, (g 4).trans rfl⟩, Olds.each hE.olds (by decide) fun b hb => ?_⟩
    rw [g b]
    show getB ((6, _) :: (5, _) :: (4, _) :: rest) b = _
    rw [getB_cons, if_neg (by omega), getB_cons, if_neg (by omega), getB_cons, if_neg (by omega)]
  rcases hx with ⟨cr, rfl, hr⟩ | ⟨rfl, rfl⟩
  · by_cases hkn : k < nr
    · obtain ⟨o2, hi, hl⟩ := hr.at_ k hkn
      have hl := hl S1 (b3 _ _ _ _ _ _ rfl rfl rfl)
      have s30 := pf_call m (esN a es) (bnA a es bn ck) (ckA a es ck) (WN a W) rest hE hA1 (e k).sl (e k).gn (e k).mr none none [6, 4]
      have s41 := rf_call m (esN a es) (bnA a es bn ck) (ckA a es ck) (WN a W) rest hE hA1 (e k).sl (e k).gn (e k).mr none none [6, 4]
      refine ⟨jN a (.agg (rC (e k))), jN_nm a _ rfl, fin _ _ _ rfl (runX_sound mixed none_sound (gd_in a .nilSlice q cr j m n c nr k (k * 7) o2 (ftF a m (getE es a.pl)) (hs (getE (esN a es) a.pl)) (hg (getE (esN a es) a.pl)) (fnB (getE (esN a es) (e k).sl) (e k).gn) (e k).mr (e k).sl (e k).gn (mE es) (mE (esN a es)) bn (bnA a es bn ck) ck (ckA a es ck) (wC W) (wC (WN a W)) rest)
        ⟨q0, ix, ld0, ix, ld0, s28, wft, s36, qs _, ix, ld1, s37, s38, qs _, qs _, k39 _, eq51 _ _ _, k40 _, eq51 _ _ _, k29 _, eq51 _ _ _, hr.len _, by simp [Qst.ok]; omega, hi, hl, hi, hl, s30, s41, by simp [Qst.ok], qn, trivial⟩) rfl ?_⟩
      unfold Td
      repeat (first | exact rfl | refine ⟨_, _, rfl, ?_, ?_⟩ | exact .inl ⟨rfl, rfl⟩ | exact .inr (see7 rfl) | exact .inr (see7 (nn7 hq)))
    · refine ⟨jN a undefA, jN_nm a _ rfl, fin _ _ _ rfl (runX_sound mixed none_sound (gd_out a .nilSlice q cr j m n c nr k (k * 7) 0 (ftF a m (getE es a.pl)) (hs (getE (esN a es) a.pl)) (hg (getE (esN a es) a.pl)) false false 0 0 (mE es) (mE (esN a es)) bn (bnA a es bn ck) ck (ckA a es ck) (wC W) (wC (WN a W)) rest)
        ⟨q0, ix, ld0, ix, ld0, s28, wft, s36, qs _, ix, ld1, s37, s38, qs _, qs _, k39 _, eq51 _ _ _, k40 _, eq51 _ _ _, k29 _, eq51 _ _ _, hr.len _, by simp [Qst.ok]; omega, qn, trivial⟩) rfl ?_⟩
      unfold Td
      repeat (first | exact rfl | refine ⟨_, _, rfl, ?_, ?_⟩ | exact .inl ⟨rfl, rfl⟩ | exact .inr (see7 rfl) | exact .inr (see7 (nn7 hq)))
  · refine ⟨jN a undefA, jN_nm a _ rfl, fin _ _ _ rfl (runX_sound mixed none_sound (gd_nil a .nilSlice q 0 j m n c 0 k (k * 7) 0 (ftF a m (getE es a.pl)) (hs (getE (esN a es) a.pl)) (hg (getE (esN a es) a.pl)) false false 0 0 (mE es) (mE (esN a es)) bn (bnA a es bn ck) ck (ckA a es ck) (wC W) (wC (WN a W)) rest)
        ⟨q0, ix, ld0, ix, ld0, s28, wft, s36, qs _, ix, ld1, s37, s38, qs _, qs _, k39 _, eq51 _ _ _, k40 _, eq51 _ _ _, k29 _, eq51 _ _ _, by simp only [Qst.ok, lenA, t87]; rfl, by simp [Qst.ok], qn, trivial⟩) rfl ?_⟩
    unfold Td
    repeat (first | exact rfl | refine ⟨_, _, rfl, ?_, ?_⟩ | exact .inl ⟨rfl, rfl⟩ | exact .inr (see7 rfl) | exact .inr (see7 (nn7 hq)))
end Go.Proofs.YtipadnlhcnmgaaaDoor.nodesShadow
