/- The loops of the law. Conditions: those that each theorem names, and no others. -/
import Derived.Test.YtofbdgmknfbkfaaGreatDoorLife16
namespace Go.Proofs.YtofbdgmknfbkfaaGreatDoor.nodesLife
open Go Go.Mini
/-! ### the law's innermost loop: steps -/
structure RwU (l : AV) (k : Nat) (F : List AV) (bs : List Nat) : Prop where
  len : ∀ s, lenA Tryz.prog s 22 l = some (.int .i64 (Int.ofNat bs.length))
  idx : ∀ i, i < bs.length → indexAddrA Tryz.prog 22 l (.int .i64 (Int.ofNat i)) = some (.ptr k i)
  row : ∃ r : List Nat, F = (bs ++ r).map u16
  lt : ∀ x ∈ bs, x < 65536
theorem c16 : isAggA Tryz.prog 59 = some false := by kernel_rfl
theorem RwU.ld {l : AV} {k : Nat} {F : List AV} {bs : List Nat} (h : RwU l k F bs) {i : Nat} (hi : i < bs.length) {s : AS} {ro : Bool} (hs : s.get k = some (.cells ro F)) : loadA Tryz.prog s 59 (.ptr k i) = some (u16 bs[i]) := by
  obtain ⟨r, e⟩ := h.row
  refine ld_cell c16 hs ?_
  rw [e, List.getElem?_map, List.getElem?_append_left hi, List.getElem?_eq_getElem hi]
  rfl
theorem w64 {a : Nat} (h : a < 1000000) : IntKind.i64.wrap (Int.ofNat a) = Int.ofNat a := i64_wrap (by simp only [Int.ofNat_eq_natCast]; omega) (by simp only [Int.ofNat_eq_natCast]; omega)
theorem q_w {y z : Nat} (h : y < 1000000) (e : y = z) : (Qst.val (some (.int .i64 (IntKind.i64.wrap (Int.ofNat y)))) (.int .i64 (Int.ofNat z))).ok Tryz.prog := by rw [Qst.ok, w64 h, e]
theorem q_le {a b : Nat} {v : Bool} (h : decide (a ≤ b) = v) : (Qst.val (some (.bool (decide (Int.ofNat a ≤ Int.ofNat b)))) (.bool v)).ok Tryz.prog := by
  rw [Qst.ok, ← h]
  congr 2
  simp only [Int.ofNat_eq_natCast, decide_eq_decide]
  omega
theorem q_ltb {a b : Nat} {v : Bool} (h : decide (a < b) = v) : (Qst.val (some (.bool (decide (Int.ofNat a < Int.ofNat b)))) (.bool v)).ok Tryz.prog := by
  rw [Qst.ok, ← h]
  congr 2
  simp only [Int.ofNat_eq_natCast, decide_eq_decide]
  omega
theorem q_ne {a b : Nat} (h : a = b) : (Qst.val (some (.bool (Int.ofNat a != Int.ofNat b))) (.bool false)).ok Tryz.prog := by
  rw [Qst.ok, h]
  simp
theorem q_i {a b : Int} {v : Bool} (h : decide (a = b) = v) : (Qst.val (some (.bool (a == b))) (.bool v)).ok Tryz.prog := by
  rw [Qst.ok, ← h]
  congr 2
theorem gAc : isAggA Tryz.prog 64 = some true := by kernel_rfl
theorem zAc : sizeA Tryz.prog 64 = some 7 := by kernel_rfl
theorem gKi : isAggA Tryz.prog 36 = some false := by kernel_rfl
theorem gU64 : isAggA Tryz.prog 31 = some false := by kernel_rfl
def ac0 : List AV := [u8 0, u8 0, i64 0, i64 0, u64 0, u64 0, .bool false]
def acC (kn a0 a1 a2 : Int) (was is : Nat) (dn : Bool) : List AV := [.int .u8 kn, .int .u8 a0, .int .i64 a1, .int .i64 a2, .int .u64 (Int.ofNat was), .int .u64 (Int.ofNat is), .bool dn]
theorem ld_acc {s : AS} {b : Nat} {kn a0 a1 a2 : Int} {was is : Nat} {dn : Bool} (h : s.get b = some (.cells false (acC kn a0 a1 a2 was is dn))) : loadA Tryz.prog s 64 (.ptr b 0) = some (acA kn a0 a1 a2 was is dn) := by
  simp only [loadA, gAc, zAc, readA, h]
  rfl
/-- What holds in the law. -/
structure LawI (thr most K : Nat) (M : PM) (FL : List Nat) (th : Nat → Th) (G : List RefP) (H : HS) (s : AS) (w : Nat → Nat) (C : Nat → List (Nat × AObj)) (ψ : Nat → Nat → Nat) (tb : Nat) (hb : Nat → Nat) (hv : Nat → AV) (Ks : List Nat) (sp lb : Nat) (F : List AV) : Prop where
  L : LayL thr most M th G H s w C ψ tb hb hv Ks
  I : Inv most K M FL th G
  E : ∀ k, k < 3 → ExT (th k)
  sa : Sa H M
  gl : G.length ≤ 16 * K
  sp : ψ 3 10 = sp
  lbK : lb ∈ Ks ∧ lb ≠ tb
  lbh : ∀ j, j < 4 → hb j ≠ lb
  lbF : ∃ ro, s.get lb = some (.cells ro F)
theorem tunE (th : Nat → Th) (k : Nat) (t : Th) (h : ∀ j, j < 3 → ExT (th j)) (h2 : ExT t) : ∀ j, j < 3 → ExT (tunT th k t j) := fun j hj => by
  unfold tunT
  split
  · exact h2
  · exact h j hj
theorem noB_op {op : Op} : noB (kd op) = true ↔ op = .no := by
  constructor
  · intro h
    cases op <;> first | rfl | cases h
  · intro h
    rw [h]
    rfl
theorem par4_hasG1 {M : PM} {w : Nat → Nat} {C : Nat → List (Nat × AObj)} {ψ : Nat → Nat → Nat} {Ks : List Nat} {s : AS} (h : Par4 M w C ψ Ks s) : hasG s G = true := by
  have := par4_hasG h
  have h2 : hasG s [(0, lf), (1, wf)] = true := this
  unfold Go.Mini.hasG at h2 ⊢
  simp only [List.all_cons, List.all_nil, Bool.and_true, Bool.and_eq_true, G] at h2 ⊢
  exact h2.2
section
variable {thr most K : Nat} {M : PM} {FL : List Nat} {th : Nat → Th} {G : List RefP} {H : HS} {s : AS} {w : Nat → Nat} {C : Nat → List (Nat × AObj)} {ψ : Nat → Nat → Nat} {tb : Nat} {hb : Nat → Nat} {hv : Nat → AV} {Ks : List Nat} {sp lb : Nat} {F : List AV} {k : Nat} {lV : AV} {bL : List Nat}
/-- A turn of it. -/
theorem n_turn (hm : most < 4294967296) (W : RwU lV lb F bL) (X : LawI thr most K M FL th G H s w C ψ tb hb hv Ks sp lb F) (hK : K < 100000) (hk : k < 3) (hn : (th k).op ≠ .no) {i n zb : Nat} (hi : i < bL.length) (hle : n ≤ bL[i] / 21 % 5) (j : Nat → AV) :
    ∃ M' FL' th' G' H' s' C' ψ' hb' hv' Ks' j', Sound Tryz.prog (.code c2L (TL zb (w 7) tb sp lV (hv 3) (i64 (Int.ofNat i)) (.ptr tb (9 * k)) (i64 (Int.ofNat n)) (j 17) (j 18) (j 19) j) s) ⟨.normal, TL zb (w 7) tb sp lV (hv' 3) (i64 (Int.ofNat i)) (.ptr tb (9 * k)) (i64 (Int.ofNat (n + 1))) (j' 17) (j' 18) (j' 19) j', s'⟩ ∧ LawI thr most (K + 1) M' FL' th' G' H' s' w C' ψ' tb hb' hv' Ks' sp lb F := by
  have hy : bL[i] < 65536 := W.lt _ (List.getElem_mem hi)
  obtain ⟨ro, gF⟩ := X.lbF
  have n5 : n ≤ 4 := by have : bL[i] / 21 % 5 < 5 := Nat.mod_lt _ (by decide); omega
  -- the actor's step
  obtain ⟨sel, s1, C1, ψ1, b1, v1, Ks1, v, a1, L1, r1, K1, o1, m1, f1, p1⟩ := astep_at X.L X.I (X.E k hk) hm hk hn
  have ac := go_acc X.I hk hm thr sel hn
  obtain ⟨FL', I'⟩ := go_ok X.I hk (by omega) hm thr sel
  have E' := go_ex (most := most) (thr := thr) X.I hk sel (X.E k hk)
  generalize hM : (go most thr sel M (th k)).1 = M' at *
  generalize ht : (go most thr sel M (th k)).2.1 = t' at *
  generalize ho : (go most thr sel M (th k)).2.2 = out at *
  have hv3 : tun hv k v1 3 = hv 3 := tun_ne _ _ (by omega)
  have hb3 : tun hb k b1 3 = hb 3 := tun_ne _ _ (by omega)
  have gl := X.gl
  obtain ⟨s2, b2, v2, ap, f2, Ks2, L2, K2, o2, m2⟩ := L1.gone r1 (by omega)
  rw [hv3] at ap
  rw [hb3] at f2 o2
  obtain ⟨s3, C3, ψ3, l1, L3, o3, m3, p3⟩ := last_at L2
  -- its access, put into a new block
  have L3' := L3.new (.cells false ac0)
  have g3 : (s3.push (.cells false ac0)).get s3.nx = some (.cells false ac0) := by rw [get_push, if_pos rfl]
  have lt3 : ∀ c ∈ Ks2, c < s3.nx := fun c hc => (L3.par.ks c hc).1
  obtain ⟨s4, e1, e2, e3⟩ := st_all (P := Tryz.prog) (t := 64) (cs := ac0) (vs := acC M'.kd M'.a.1 M'.a.2.1 M'.a.2.2 M'.was M'.is M'.dn) zAc rfl rfl g3
  have ktb := lt3 _ L3.tbK.1
  have k2 := L3.tbK.2
  obtain ⟨L4, o4, q4⟩ := L3'.row1 ⟨List.mem_cons_self, by omega⟩ (show s3.nx ≠ tb by omega) (fun j hj e => by
    have h := lt3 _ (L3.hbK j hj).1
    omega) e2 e3
  have g4 := q4 _ g3
  have o4' : ∀ c ∈ Ks2, s4.get c = s3.get c := fun c hc => by
    have := lt3 c hc
    rw [o4 c (by omega), get_push, if_neg (by omega)]
  have n4 : s4.nx = s3.nx + 1 := e3
  -- the shadow sees it
  obtain ⟨w0, sa'⟩ := saw_ok X.sa ac
  have lt' := sa_lt X.sa X.I.lt
  have hf : M'.a.1 = 9 → 0 ≤ M'.a.2.2 ∧ M'.a.2.2 ≤ 7 := fun h9 => by
    rcases ac.kind with ⟨h1 | h1, _⟩ | ⟨z, _, h1, _⟩ | ⟨z, f, _, h5, h7, h1, _⟩
    · exact absurd h9 h1
    · omega
    · rw [h1]; exact ⟨by simp [aZ], by simp [aZ]⟩
    · rw [h1]
      show 0 ≤ Int.ofNat f ∧ Int.ofNat f ≤ 7
      simp only [Int.ofNat_eq_natCast]
      omega
  obtain ⟨s5, C5, ψ5, b5, L5, o5, m5, p5⟩ := saw_at L4 hm lt' (kn := M'.kd) (dn := M'.dn) ac.was ac.is hf w0
  rw [p3] at b5 p5
  have g5 : s5.get s3.nx = some (.cells false (acC M'.kd M'.a.1 M'.a.2.1 M'.a.2.2 M'.was M'.is M'.dn)) := by rw [o5 _ List.mem_cons_self]; exact g4
  have p3' : ψ1 3 10 = sp := by rw [p1]; exact X.sp
  rw [p3'] at b5 p5
  have olen : out.length ≤ 16 := by
    rcases r1 with ⟨_, h⟩ | ⟨_, _, _, _, h⟩
    · rw [h]; exact Nat.zero_le _
    · exact h
  have llt : lb < s.nx := (X.L.par.ks lb X.lbK.1).1
  have hb1 : ∀ j, j < 4 → tun hb k b1 j ≠ lb := fun j hj => by
    by_cases e : j = k
    · subst e
      rw [tun_same]
      rcases f1 with h | h
      · rw [h]; exact X.lbh j hj
      · omega
    · rw [tun_ne _ _ e]; exact X.lbh j hj
  have hb2 : ∀ j, j < 4 → tun (tun hb k b1) 3 b2 j ≠ lb := fun j hj => by
    by_cases e : j = 3
    · subst e
      rw [tun_same]
      rcases f2 with h | h
      · rw [h]; exact X.lbh 3 (by decide)
      · omega
    · rw [tun_ne _ _ e]; exact hb1 j hj
  have lb2 : lb ∈ Ks2 := K2 _ (K1 _ X.lbK.1)
  have lg5 : s5.get lb = some (.cells ro F) := by rw [o5 lb (List.mem_cons_of_mem _ lb2), o4' lb lb2, o3 lb lb2, o2 lb (K1 _ X.lbK.1) (fun e => X.lbh 3 (by decide) e.symm), o1 lb X.lbK.1 X.lbK.2 (fun e => X.lbh k (by omega) e.symm)]; exact gF
  have X5 : ∀ {s6 : AS} {C6 : Nat → List (Nat × AObj)} {ψ6 : Nat → Nat → Nat}, LayL thr most M' (tunT th k t') (G ++ out) (sawP most H M'.a M'.was M'.is).1 s6 w C6 ψ6 tb (tun (tun hb k b1) 3 b2) (tun (tun hv k v1) 3 v2) (s3.nx :: Ks2) → ψ6 3 10 = sp → s6.get lb = some (.cells ro F) → LawI thr most (K + 1) M' FL' (tunT th k t') (G ++ out) (sawP most H M'.a M'.was M'.is).1 s6 w C6 ψ6 tb (tun (tun hb k b1) 3 b2) (tun (tun hv k v1) 3 v2) (s3.nx :: Ks2) sp lb F := fun L6 p6 g6 =>
    ⟨L6, I', tunE th k t' X.E E', sa', by rw [List.length_append]; omega, p6, ⟨List.mem_cons_of_mem _ lb2, X.lbK.2⟩, hb2, ⟨ro, g6⟩⟩
  have nb : noB (kd (th k).op) = false := by
    cases e : noB (kd (th k).op) with
    | false => rfl
    | true => exact absurd (noB_op.1 e) hn
  have id0 := idle_at X.L hk
  rw [nb] at id0
  have iq := W.idx i hi
  have lq := W.ld hi gF
  have y1 : bL[i] / 21 < 1000000 := by omega
  have ldS := ld_acc g5
  have ldS4 := ld_acc g4
  have e9 : ∀ z f : Nat, M'.a = aZ z f → M'.a.1 = 9 ∧ M'.a.2.1 = Int.ofNat z ∧ M'.a.2.2 = Int.ofNat f := fun z f h => by rw [h]; exact ⟨rfl, rfl, rfl⟩
  have ld36 : loadA Tryz.prog s5 36 (.ptr s3.nx 1) = some (.int .u8 M'.a.1) := ld_cell gKi g5 rfl
  have ldF : loadA Tryz.prog s5 3 (.ptr s3.nx 3) = some (i64 M'.a.2.2) := ld_cell cI g5 rfl
  by_cases h9 : M'.a.1 = 9
  · by_cases hf0 : M'.a.2.2 = 0
    · -- a header
      rcases ac.kind with ⟨h1 | h1, _⟩ | ⟨z, _, h1, his, _, _, hno⟩ | ⟨z, f, _, h5, h7, h1, _⟩
      · exact absurd h9 h1
      · omega
      · obtain ⟨_, ez, _⟩ := e9 z 0 h1
        have lt'' : ∀ z : Nat, getH (sawP most H M'.a M'.was M'.is).1 (Int.ofNat z) < 18446744073709551616 := sa_lt sa' I'.lt
        obtain ⟨s6, C6, ψ6, c6, L6, o6, m6, p6⟩ := of_at L5 lt'' z
        rw [p5] at c6 p6
        have hH : getH (sawP most H M'.a M'.was M'.is).1 (Int.ofNat z) = M'.is := (sa' z).trans his.symm
        rw [hH] at c6
        have hc := header_call (hs M'.is) (hg M'.is) (show hs M'.is ≤ 4 by unfold hs; split <;> omega) (show hg M'.is < 4294967296 from Nat.mod_lt _ (by decide)) s6 (par4_hasG1 L6.par)
        rw [hno] at hc
        have g6 : s6.get s3.nx = some (.cells false (acC M'.kd M'.a.1 M'.a.2.1 M'.a.2.2 M'.was M'.is M'.dn)) := by rw [o6 _ List.mem_cons_self]; exact g5
        have ldI : loadA Tryz.prog s6 31 (.ptr s3.nx 5) = some (u64 M'.is) := ld_cell gU64 g6 rfl
        have ldA : loadA Tryz.prog s5 3 (.ptr s3.nx 2) = some (i64 M'.a.2.1) := ld_cell cI g5 rfl
        have c6 : Sound Tryz.prog (.call 16 [.ptr sp 0, i64 M'.a.2.1] s5) ⟨.ret, [.tuple [u8 (hs M'.is), u32 (hg M'.is)]], s6⟩ := by rw [ez]; exact c6
        obtain ⟨j', hs'⟩ := run_TQ (n_g3_t s s1 s2 s3 s4 s5 s6 zb (w 7) tb sp lb i n (n + 1) bL[i] (bL[i] / 21) (bL[i] / 21 % 5) (9 * k) M'.was M'.is (hs M'.is) (hg M'.is) M'.is lV (hv 3) v2 v M'.kd M'.a.1 M'.a.2.1 M'.a.2.2 M'.dn j) (n_g3_q s s1 s2 s3 s4 s5 s6 zb (w 7) tb sp lb i n (n + 1) bL[i] (bL[i] / 21) (bL[i] / 21 % 5) (9 * k) M'.was M'.is (hs M'.is) (hg M'.is) M'.is lV (hv 3) v2 v M'.kd M'.a.1 M'.a.2.1 M'.a.2.2 M'.dn j)
          ⟨iq, lq, q_w (by omega) rfl, q_w y1 rfl, rfl, q_le (decide_eq_true hle), id0, a1, ap, l1, ⟨e1, rfl⟩, ldS4, b5, ld36, q_i (decide_eq_true h9), ldF, q_i (decide_eq_true hf0), ldA, c6, ldI, hc, q_ne rfl, ldI, q_ne rfl, ldI, q_w (by omega) rfl, trivial⟩
        refine ⟨M', FL', _, _, _, s6, C6, ψ6, _, _, _, j', ?_, X5 L6 p6 (by rw [o6 lb (List.mem_cons_of_mem _ lb2)]; exact lg5)⟩
        rw [tun_same]
        exact hs'
      · obtain ⟨_, _, ef⟩ := e9 z f h1
        rw [ef] at hf0
        simp only [Int.ofNat_eq_natCast] at hf0
        omega
    · obtain ⟨j', hs'⟩ := run_TQ (n_g2_t s s1 s2 s3 s4 s5 s5 zb (w 7) tb sp lb i n (n + 1) bL[i] (bL[i] / 21) (bL[i] / 21 % 5) (9 * k) M'.was M'.is 0 0 0 lV (hv 3) v2 v M'.kd M'.a.1 M'.a.2.1 M'.a.2.2 M'.dn j) (n_g2_q s s1 s2 s3 s4 s5 s5 zb (w 7) tb sp lb i n (n + 1) bL[i] (bL[i] / 21) (bL[i] / 21 % 5) (9 * k) M'.was M'.is 0 0 0 lV (hv 3) v2 v M'.kd M'.a.1 M'.a.2.1 M'.a.2.2 M'.dn j)
        ⟨iq, lq, q_w (by omega) rfl, q_w y1 rfl, rfl, q_le (decide_eq_true hle), id0, a1, ap, l1, ⟨e1, rfl⟩, ldS4, b5, ld36, q_i (decide_eq_true h9), ldF, q_i (decide_eq_false hf0), q_w (by omega) rfl, trivial⟩
      refine ⟨M', FL', _, _, _, s5, C5, ψ5, _, _, _, j', ?_, X5 L5 p5 lg5⟩
      rw [tun_same]
      exact hs'
  · obtain ⟨j', hs'⟩ := run_TQ (n_g1_t s s1 s2 s3 s4 s5 s5 zb (w 7) tb sp lb i n (n + 1) bL[i] (bL[i] / 21) (bL[i] / 21 % 5) (9 * k) M'.was M'.is 0 0 0 lV (hv 3) v2 v M'.kd M'.a.1 M'.a.2.1 M'.a.2.2 M'.dn j) (n_g1_q s s1 s2 s3 s4 s5 s5 zb (w 7) tb sp lb i n (n + 1) bL[i] (bL[i] / 21) (bL[i] / 21 % 5) (9 * k) M'.was M'.is 0 0 0 lV (hv 3) v2 v M'.kd M'.a.1 M'.a.2.1 M'.a.2.2 M'.dn j)
      ⟨iq, lq, q_w (by omega) rfl, q_w y1 rfl, rfl, q_le (decide_eq_true hle), id0, a1, ap, l1, ⟨e1, rfl⟩, ldS4, b5, ld36, q_i (decide_eq_false h9), q_w (by omega) rfl, trivial⟩
    refine ⟨M', FL', _, _, _, s5, C5, ψ5, _, _, _, j', ?_, X5 L5 p5 lg5⟩
    rw [tun_same]
    exact hs'
end
end Go.Proofs.YtofbdgmknfbkfaaGreatDoor.nodesLife
namespace Go.Proofs.YtofbdgmknfbkfaaGreatDoor.nodesLife
open Go Go.Mini
/-! ### the law's code, in pieces -/
def pcS : Nat → Code → Code
  | 0, .seq a _ => a
  | k + 1, .seq _ b => pcS k b
  | _, c => c
def dropS : Nat → Code → Code
  | 0, c => c
  | k + 1, .seq _ b => dropS k b
  | _, c => c
def blkS : Code → Code
  | .block _ c => c
  | c => c
def runPs (P : Program) (hk : Go.Mini.Task → Option Res) (n f : Nat) : List Code → List AV → AS → List Dec → Option (Res × List Dec × List Qst)
  | [], ts, s, ds => some (⟨.normal, ts, s⟩, ds, [])
  | c :: l, ts, s, ds => match runX P hk n f (.code c ts s) ds with
    | some (⟨.normal, ts', s'⟩, ds', q) => match runPs P hk n f l ts' s' ds' with
      | some (r, ds'', q') => some (r, ds'', q ++ q')
      | none => none
    | _ => none
def seqs : List Code → Code → Code
  | [], r => r
  | c :: l, r => .seq c (seqs l r)
theorem runPs_ok {P : Program} {hk : Go.Mini.Task → Option Res} (hm : P.follows .mixedOrders = true) (hh : ∀ t r, hk t = some r → Sound P t r) {n f : Nat} : ∀ (cs : List Code) (ts : List AV) (s : AS) (ds : List Dec) (e : AExit) (ts1 : List AV) (s1 : AS) (ds1 : List Dec) (q : List Qst), runPs P hk n f cs ts s ds = some (⟨e, ts1, s1⟩, ds1, q) → Qsts P q → ∀ c r, Sound P (.code c ts1 s1) r → Sound P (.code (seqs cs c) ts s) r
  | [], ts, s, ds, e, ts1, s1, ds1, q, h, hq, c, r, hc => by
    simp only [runPs, Option.some.injEq, Prod.mk.injEq, Res.mk.injEq] at h
    obtain ⟨⟨_, rfl, rfl⟩, _, _⟩ := h
    exact hc
  | x :: l, ts, s, ds, e, ts1, s1, ds1, q, h, hq, c, r, hc => by
    simp only [runPs] at h
    split at h
    case h_2 => cases h
    rename_i ts' s' ds' q' h1
    split at h
    case h_2 => cases h
    rename_i r2 ds'' q2 h2
    simp only [Option.some.injEq, Prod.mk.injEq] at h
    obtain ⟨rfl, rfl, rfl⟩ := h
    rw [qsts_app] at hq
    exact seq_next (runX_sound hm hh h1 hq.1) (runPs_ok hm hh l _ _ _ _ _ _ _ _ h2 hq.2 c r hc)
noncomputable def pT (cs : List Code) (ts : List AV) (s : AS) (ds : List Dec) : Option (List AV × AS) := (runPs Tryz.prog none_ 300 3 cs ts s ds).map fun x => (x.1.ts, x.1.s)
noncomputable def pTR (cs : List Code) (ts : List AV) (s : AS) (ds : List Dec) (T : (Nat → AV) → List AV) (s' : AS) : Option (List AV × AS) := match runPs Tryz.prog none_ 300 3 cs ts s ds with
  | some x => some (T (tget x.1.ts), s')
  | none => some ([], s')
noncomputable def pQ (cs : List Code) (ts : List AV) (s : AS) (ds : List Dec) : Option (List Qst) := (runPs Tryz.prog none_ 300 3 cs ts s ds).map fun x => x.2.2
theorem run_PQ {cs : List Code} {ts : List AV} {s s' : AS} {ds : List Dec} {T : (Nat → AV) → List AV} {q : List Qst} (h : pT cs ts s ds = pTR cs ts s ds T s') (h2 : pQ cs ts s ds = some q) (hq : Qsts Tryz.prog q) : ∃ j, ∀ c r, Sound Tryz.prog (.code c (T j) s') r → Sound Tryz.prog (.code (seqs cs c) ts s) r := by
  unfold pT pTR at h
  unfold pQ at h2
  cases hr : runPs Tryz.prog none_ 300 3 cs ts s ds with
  | none => rw [hr] at h2; cases h2
  | some x =>
    rw [hr] at h h2
    obtain ⟨⟨e', ts', s1⟩, ds', q'⟩ := x
    simp only [Option.map_some, Option.some.injEq, Prod.mk.injEq] at h h2
    obtain ⟨h3, rfl⟩ := h
    subst h2
    refine ⟨tget ts', fun c r hc => ?_⟩
    rw [← h3] at hc
    exact runPs_ok mixed none_sound cs _ _ _ _ _ _ _ _ hr hq c r hc
noncomputable def ps0 : List Code := [pcS 0 c1L]
noncomputable def cB3 : Code := blkS (pcS 1 c1L)
noncomputable def cR17 : Code := dropS 2 c1L
noncomputable def ps3 : List Code := [pcS 0 cB3, pcS 1 cB3]
noncomputable def cR21 : Code := pcS 0 (pcS 2 cB3)
noncomputable def cR32 : Code := pcS 3 cB3
theorem c1_eq : c1L = seqs ps0 (.seq (.block 3 cB3) cR17) := by kernel_rfl
theorem cB3_eq : cB3 = seqs ps3 (.seq (.seq cR21 (.block 4 (.loop c2L))) (.seq cR32 (.block 6 (.loop c3L)))) := by kernel_rfl
def o_aD (_ : AS) (_ _ _ _ _ n : Nat) (_ _ : AV) (_ : Nat → AV) : List Dec := [.val 3 16 2 (i64 (Int.ofNat n)), .val 3 16 3 (.bool true)]
theorem o_a_t (s : AS) (zb m tb sp i n : Nat) (lV gv : AV) (j : Nat → AV) : pT ps0 (TL zb m tb sp lV gv (i64 (Int.ofNat i)) (j 12) (j 13) (j 17) (j 18) (j 19) j) s (o_aD s zb m tb sp i n lV gv j) = pTR ps0 (TL zb m tb sp lV gv (i64 (Int.ofNat i)) (j 12) (j 13) (j 17) (j 18) (j 19) j) s (o_aD s zb m tb sp i n lV gv j) (fun j => TL zb m tb sp lV gv (i64 (Int.ofNat i)) (j 12) (j 13) (j 17) (j 18) (j 19) j) s := by kernel_rfl
theorem o_a_q (s : AS) (zb m tb sp i n : Nat) (lV gv : AV) (j : Nat → AV) : pQ ps0 (TL zb m tb sp lV gv (i64 (Int.ofNat i)) (j 12) (j 13) (j 17) (j 18) (j 19) j) s (o_aD s zb m tb sp i n lV gv j) = some [.ln 22 s lV (.int .i64 (Int.ofNat n)), .val (some (.bool (decide (Int.ofNat i < Int.ofNat n)))) (.bool true)] := by kernel_rfl
def o_zD (_ : AS) (_ _ _ _ _ _ : Nat) (_ _ : AV) (_ : Nat → AV) : List Dec := []
theorem o_z_t (s : AS) (zb m tb sp i o : Nat) (lV gv : AV) (j : Nat → AV) : rT 3 cR21 (TL zb m tb sp lV gv (i64 (Int.ofNat i)) (.ptr tb o) (j 13) (j 17) (j 18) (j 19) j) s (o_zD s zb m tb sp i o lV gv j) = rTR 3 cR21 (TL zb m tb sp lV gv (i64 (Int.ofNat i)) (.ptr tb o) (j 13) (j 17) (j 18) (j 19) j) s (o_zD s zb m tb sp i o lV gv j) (fun j => TL zb m tb sp lV gv (i64 (Int.ofNat i)) (.ptr tb o) (i64 0) (j 17) (j 18) (j 19) j) .normal s := by kernel_rfl
theorem o_z_q (s : AS) (zb m tb sp i o : Nat) (lV gv : AV) (j : Nat → AV) : rQ 3 cR21 (TL zb m tb sp lV gv (i64 (Int.ofNat i)) (.ptr tb o) (j 13) (j 17) (j 18) (j 19) j) s (o_zD s zb m tb sp i o lV gv j) = some [] := by kernel_rfl
def o_bD (s : AS) (_ _ tb _ lb i y k o : Nat) (_ _ : AV) (_ : Nat → AV) : List Dec := [.val 3 18 3 (.ptr lb i), .val 3 18 4 (u16 y), .val 3 18 5 (i64 (Int.ofNat y)), .val 3 18 6 (i64 (Int.ofNat k)), .val 3 18 7 (.ptr tb o), .call 3 19 1 (.bool false) (fun _ => s)]
theorem o_b_t (s : AS) (zb m tb sp lb i y k o : Nat) (lV gv : AV) (j : Nat → AV) : pT ps3 (TL zb m tb sp lV gv (i64 (Int.ofNat i)) (j 12) (j 13) (j 17) (j 18) (j 19) j) s (o_bD s zb m tb sp lb i y k o lV gv j) = pTR ps3 (TL zb m tb sp lV gv (i64 (Int.ofNat i)) (j 12) (j 13) (j 17) (j 18) (j 19) j) s (o_bD s zb m tb sp lb i y k o lV gv j) (fun j => TL zb m tb sp lV gv (i64 (Int.ofNat i)) (.ptr tb o) (j 13) (j 17) (j 18) (j 19) j) s := by kernel_rfl
theorem o_b_q (s : AS) (zb m tb sp lb i y k o : Nat) (lV gv : AV) (j : Nat → AV) : pQ ps3 (TL zb m tb sp lV gv (i64 (Int.ofNat i)) (j 12) (j 13) (j 17) (j 18) (j 19) j) s (o_bD s zb m tb sp lb i y k o lV gv j) = some [.idx 22 lV (.int .i64 (Int.ofNat i)) (.ptr lb i), .ld 59 s (.ptr lb i) (.int .u16 (Int.ofNat y)), .val (some (.int .i64 (IntKind.i64.wrap (Int.ofNat y)))) (.int .i64 (Int.ofNat y)), .val (some (.int .i64 (Int.ofNat (y % 3)))) (.int .i64 (Int.ofNat k)), .idx 39 (AV.slice tb 0 3 3) (.int .i64 (Int.ofNat k)) (.ptr tb o), .snd (.call 11 [.ptr tb o] s) { e := .ret, ts := [.bool false], s := s }] := by kernel_rfl
def o_iD (s s1 : AS) (_ _ tb _ lb i y k o q q2 : Nat) (_ _ : AV) (_ : Nat → AV) : List Dec := [.val 3 18 3 (.ptr lb i), .val 3 18 4 (u16 y), .val 3 18 5 (i64 (Int.ofNat y)), .val 3 18 6 (i64 (Int.ofNat k)), .val 3 18 7 (.ptr tb o), .call 3 19 1 (.bool true) (fun _ => s), .val 3 20 3 (.ptr lb i), .val 3 20 4 (u16 y), .val 3 20 5 (u16 q), .val 3 20 6 (u16 q2), .val 3 20 7 (u8 q2), .call 3 20 8 (.tuple []) (fun _ => s1)]
theorem o_i_t (s s1 : AS) (zb m tb sp lb i y k o q q2 : Nat) (lV gv : AV) (j : Nat → AV) : pT ps3 (TL zb m tb sp lV gv (i64 (Int.ofNat i)) (j 12) (j 13) (j 17) (j 18) (j 19) j) s (o_iD s s1 zb m tb sp lb i y k o q q2 lV gv j) = pTR ps3 (TL zb m tb sp lV gv (i64 (Int.ofNat i)) (j 12) (j 13) (j 17) (j 18) (j 19) j) s (o_iD s s1 zb m tb sp lb i y k o q q2 lV gv j) (fun j => TL zb m tb sp lV gv (i64 (Int.ofNat i)) (.ptr tb o) (j 13) (j 17) (j 18) (j 19) j) s1 := by kernel_rfl
theorem o_i_q (s s1 : AS) (zb m tb sp lb i y k o q q2 : Nat) (lV gv : AV) (j : Nat → AV) : pQ ps3 (TL zb m tb sp lV gv (i64 (Int.ofNat i)) (j 12) (j 13) (j 17) (j 18) (j 19) j) s (o_iD s s1 zb m tb sp lb i y k o q q2 lV gv j) = some [.idx 22 lV (.int .i64 (Int.ofNat i)) (.ptr lb i), .ld 59 s (.ptr lb i) (.int .u16 (Int.ofNat y)), .val (some (.int .i64 (IntKind.i64.wrap (Int.ofNat y)))) (.int .i64 (Int.ofNat y)), .val (some (.int .i64 (Int.ofNat (y % 3)))) (.int .i64 (Int.ofNat k)), .idx 39 (AV.slice tb 0 3 3) (.int .i64 (Int.ofNat k)) (.ptr tb o), .snd (.call 11 [.ptr tb o] s) { e := .ret, ts := [.bool true], s := s }, .idx 22 lV (.int .i64 (Int.ofNat i)) (.ptr lb i), .ld 59 s (.ptr lb i) (.int .u16 (Int.ofNat y)), .val (some (.int .u16 (Int.ofNat (y / 3 % ((2 : Int) ^ IntKind.u16.bits).natAbs)))) (.int .u16 (Int.ofNat q)), .val (some (.int .u16 (Int.ofNat (q % 7)))) (.int .u16 (Int.ofNat q2)), .val (some (.int .u8 (Int.ofNat (q2 % ((2 : Int) ^ IntKind.u8.bits).natAbs)))) (.int .u8 (Int.ofNat q2)), .snd (.call 12 [.ptr tb o, .int .u8 (Int.ofNat q2)] s) { e := .ret, ts := [.tuple []], s := s1 }] := by kernel_rfl
def o_kD (_ : AS) (_ _ _ _ _ _ _ : Nat) (_ _ : AV) (_ : Nat → AV) : List Dec := []
theorem o_k_t (s : AS) (zb m tb sp i n o : Nat) (lV gv : AV) (j : Nat → AV) : rT 3 cR32 (TL zb m tb sp lV gv (i64 (Int.ofNat i)) (.ptr tb o) (i64 (Int.ofNat n)) (j 17) (j 18) (j 19) j) s (o_kD s zb m tb sp i n o lV gv j) = rTR 3 cR32 (TL zb m tb sp lV gv (i64 (Int.ofNat i)) (.ptr tb o) (i64 (Int.ofNat n)) (j 17) (j 18) (j 19) j) s (o_kD s zb m tb sp i n o lV gv j) (fun j => TL zb m tb sp lV gv (i64 (Int.ofNat i)) (.ptr tb o) (j 13) (i64 0) (j 18) (j 19) j) .normal s := by kernel_rfl
theorem o_k_q (s : AS) (zb m tb sp i n o : Nat) (lV gv : AV) (j : Nat → AV) : rQ 3 cR32 (TL zb m tb sp lV gv (i64 (Int.ofNat i)) (.ptr tb o) (i64 (Int.ofNat n)) (j 17) (j 18) (j 19) j) s (o_kD s zb m tb sp i n o lV gv j) = some [] := by kernel_rfl
def o_nD (_ : AS) (_ _ _ _ _ i1 _ _ : Nat) (_ _ : AV) (_ : Nat → AV) : List Dec := [.val 3 17 1 (i64 (Int.ofNat i1))]
theorem o_n_t (s : AS) (zb m tb sp i i1 n o : Nat) (lV gv : AV) (j : Nat → AV) : rT 3 cR17 (TL zb m tb sp lV gv (i64 (Int.ofNat i)) (.ptr tb o) (j 13) (i64 (Int.ofNat n)) (j 18) (j 19) j) s (o_nD s zb m tb sp i i1 n o lV gv j) = rTR 3 cR17 (TL zb m tb sp lV gv (i64 (Int.ofNat i)) (.ptr tb o) (j 13) (i64 (Int.ofNat n)) (j 18) (j 19) j) s (o_nD s zb m tb sp i i1 n o lV gv j) (fun j => TL zb m tb sp lV gv (i64 (Int.ofNat i1)) (j 12) (j 13) (j 17) (j 18) (j 19) j) .normal s := by kernel_rfl
theorem o_n_q (s : AS) (zb m tb sp i i1 n o : Nat) (lV gv : AV) (j : Nat → AV) : rQ 3 cR17 (TL zb m tb sp lV gv (i64 (Int.ofNat i)) (.ptr tb o) (j 13) (i64 (Int.ofNat n)) (j 18) (j 19) j) s (o_nD s zb m tb sp i i1 n o lV gv j) = some [.val (some (.int .i64 (IntKind.i64.wrap (Int.ofNat (i + 1))))) (.int .i64 (Int.ofNat i1))] := by kernel_rfl
end Go.Proofs.YtofbdgmknfbkfaaGreatDoor.nodesLife
namespace Go.Proofs.YtofbdgmknfbkfaaGreatDoor.nodesLife
open Go Go.Mini
/-! ### the law's loops -/
theorem u39 : Tryz.prog.underlying 39 = some (.slice 55) := by kernel_rfl
theorem z39 : sizeA Tryz.prog 55 = some 9 := by kernel_rfl
theorem a_idx (tb : Nat) {k : Nat} (hk : k < 3) : indexAddrA Tryz.prog 39 (.slice tb 0 3 3) (.int .i64 (Int.ofNat k)) = some (.ptr tb (9 * k)) := by
  simp only [indexAddrA, u39, z39]
  rw [if_pos ⟨Int.natCast_nonneg k, by simp only [Int.ofNat_eq_natCast]; omega⟩]
  show some (AV.ptr tb (0 + k * 9)) = _
  rw [Nat.zero_add, Nat.mul_comm]
section
variable {thr most K : Nat} {M : PM} {FL : List Nat} {th : Nat → Th} {G : List RefP} {H : HS} {s : AS} {w : Nat → Nat} {C : Nat → List (Nat × AObj)} {ψ : Nat → Nat → Nat} {tb : Nat} {hb : Nat → Nat} {hv : Nat → AV} {Ks : List Nat} {sp lb : Nat} {F : List AV} {k : Nat} {lV : AV} {bL : List Nat}
theorem LawI.mv (X : LawI thr most K M FL th G H s w C ψ tb hb hv Ks sp lb F) {s' : AS} {C' : Nat → List (Nat × AObj)} {ψ' : Nat → Nat → Nat} (L : LayL thr most M th G H s' w C' ψ' tb hb hv Ks) (hk : ∀ c ∈ Ks, s'.get c = s.get c) (hp : ψ' 3 10 = ψ 3 10) : LawI thr most K M FL th G H s' w C' ψ' tb hb hv Ks sp lb F := by
  obtain ⟨ro, g⟩ := X.lbF
  exact ⟨L, X.I, X.E, X.sa, X.gl, hp.trans X.sp, X.lbK, X.lbh, ⟨ro, by rw [hk lb X.lbK.1]; exact g⟩⟩
theorem n_loop (hm : most < 4294967296) (W : RwU lV lb F bL) (hk : k < 3) {i zb : Nat} (hi : i < bL.length) : ∀ (d n K : Nat) (M : PM) (FL : List Nat) (th : Nat → Th) (G : List RefP) (H : HS) (s : AS) (C : Nat → List (Nat × AObj)) (ψ : Nat → Nat → Nat) (hb : Nat → Nat) (hv : Nat → AV) (Ks : List Nat) (j : Nat → AV), n + d = 6 → n ≤ bL[i] / 21 % 5 + 1 → K + d < 100000 → LawI thr most K M FL th G H s w C ψ tb hb hv Ks sp lb F →
    ∃ n' K' M' FL' th' G' H' s' C' ψ' hb' hv' Ks' j', Sound Tryz.prog (.code (.loop c2L) (TL zb (w 7) tb sp lV (hv 3) (i64 (Int.ofNat i)) (.ptr tb (9 * k)) (i64 (Int.ofNat n)) (j 17) (j 18) (j 19) j) s) ⟨.exit 4, TL zb (w 7) tb sp lV (hv' 3) (i64 (Int.ofNat i)) (.ptr tb (9 * k)) (i64 (Int.ofNat n')) (j' 17) (j' 18) (j' 19) j', s'⟩ ∧ LawI thr most K' M' FL' th' G' H' s' w C' ψ' tb hb' hv' Ks' sp lb F ∧ K' ≤ K + d := by
  intro d
  have h5 : bL[i] / 21 % 5 < 5 := Nat.mod_lt _ (by decide)
  have hy : bL[i] < 65536 := W.lt _ (List.getElem_mem hi)
  induction d with
  | zero => intro n K M FL th G H s C ψ hb hv Ks j hd hn; omega
  | succ d ih =>
    intro n K M FL th G H s C ψ hb hv Ks j hd hn hK X
    obtain ⟨ro, gF⟩ := X.lbF
    have iq := W.idx i hi
    have lq := W.ld hi gF
    by_cases hle : n ≤ bL[i] / 21 % 5
    · by_cases hno : (th k).op = .no
      · have id0 := idle_at X.L hk
        rw [noB_op.2 hno] at id0
        obtain ⟨j', hs'⟩ := run_TQ (n_e2_t s zb (w 7) tb sp lb i n bL[i] (bL[i] / 21) (bL[i] / 21 % 5) (9 * k) lV (hv 3) j) (n_e2_q s zb (w 7) tb sp lb i n bL[i] (bL[i] / 21) (bL[i] / 21 % 5) (9 * k) lV (hv 3) j) ⟨iq, lq, q_w (by omega) rfl, q_w (by omega) rfl, rfl, q_le (decide_eq_true hle), id0, trivial⟩
        exact ⟨n, K, M, FL, th, G, H, s, C, ψ, hb, hv, Ks, j', loop_stop hs' (by simp), X, by omega⟩
      · obtain ⟨M', FL', th', G', H', s', C', ψ', hb', hv', Ks', j', hs', X'⟩ := n_turn (zb := zb) hm W X (by omega) hk hno hi hle j
        obtain ⟨n2, K2, M2, FL2, th2, G2', H2, s2, C2, ψ2, hb2, hv2, Ks2, j2, hs2, X2, hK2⟩ := ih (n + 1) (K + 1) M' FL' th' G' H' s' C' ψ' hb' hv' Ks' j' (by omega) (by omega) (by omega) X'
        exact ⟨n2, K2, M2, FL2, th2, G2', H2, s2, C2, ψ2, hb2, hv2, Ks2, j2, loop_next hs' hs2, X2, by omega⟩
    · obtain ⟨j', hs'⟩ := run_TQ (n_e1_t s zb (w 7) tb sp lb i n bL[i] (bL[i] / 21) (bL[i] / 21 % 5) (9 * k) lV (hv 3) j) (n_e1_q s zb (w 7) tb sp lb i n bL[i] (bL[i] / 21) (bL[i] / 21 % 5) (9 * k) lV (hv 3) j) ⟨iq, lq, q_w (by omega) rfl, q_w (by omega) rfl, rfl, q_le (decide_eq_false hle), trivial⟩
      exact ⟨n, K, M, FL, th, G, H, s, C, ψ, hb, hv, Ks, j', loop_stop hs' (by simp), X, by omega⟩
theorem k_loop (hm : most < 4294967296) (hk : k < 3) {i zb : Nat} : ∀ (d q : Nat) (s : AS) (C : Nat → List (Nat × AObj)) (ψ : Nat → Nat → Nat) (j : Nat → AV), q + d = (th k).held.length → LawI thr most K M FL th G H s w C ψ tb hb hv Ks sp lb F →
    ∃ s' C' ψ' j', Sound Tryz.prog (.code (.loop c3L) (TL zb (w 7) tb sp lV (hv 3) (i64 (Int.ofNat i)) (.ptr tb (9 * k)) (j 13) (i64 (Int.ofNat q)) (j 18) (j 19) j) s) ⟨.exit 6, TL zb (w 7) tb sp lV (hv 3) (i64 (Int.ofNat i)) (.ptr tb (9 * k)) (j' 13) (i64 (Int.ofNat (th k).held.length)) (j' 18) (j' 19) j', s'⟩ ∧ LawI thr most K M FL th G H s' w C' ψ' tb hb hv Ks sp lb F := by
  intro d
  induction d with
  | zero =>
    intro q s C ψ j hd X
    obtain ⟨R, hR, hRo⟩ := X.L.row
    have hh := X.L.held k (by omega)
    rw [show rsOf th G k = (th k).held from if_pos hk] at hh
    have lh := ld_cell (P := Tryz.prog) g5R hR (hRo.h k hk)
    obtain rfl : q = (th k).held.length := by omega
    obtain ⟨j', hs'⟩ := run_TQ (k_e_t s s zb (w 7) tb sp 0 0 i (th k).held.length 0 (th k).held.length 0 0 (9 * k) lV (hv 3) (hv k) j) (k_e_q s s zb (w 7) tb sp 0 0 i (th k).held.length 0 (th k).held.length 0 0 (9 * k) lV (hv 3) (hv k) j) ⟨lh, ln_held hh _, q_ltb (decide_eq_false (by omega)), trivial⟩
    exact ⟨s, C, ψ, j', loop_stop hs' (by simp), X⟩
  | succ d ih =>
    intro q s C ψ j hd X
    obtain ⟨R, hR, hRo⟩ := X.L.row
    have hh := X.L.held k (by omega)
    rw [show rsOf th G k = (th k).held from if_pos hk] at hh
    have lh := ld_cell (P := Tryz.prog) g5R hR (hRo.h k hk)
    have hq : q < (th k).held.length := by omega
    have hlen := X.I.len hk
    obtain ⟨p, ip, lp⟩ := held_at hh hq
    obtain ⟨s1, C1, ψ1, f1, L1, o1, m1, p1⟩ := fine_at X.L (sa_lt X.sa X.I.lt) (th k).held[q].1 (th k).held[q].2
    rw [show fineP H ((th k).held[q].1, (th k).held[q].2) = true from fine_held X.sa (X.I.ok k hk) hm _ (List.getElem_mem hq), X.sp] at f1
    obtain ⟨j', hs'⟩ := run_TQ (k_g_t s s1 zb (w 7) tb sp (hb k) p i q (q + 1) (th k).held.length (th k).held[q].1 (th k).held[q].2 (9 * k) lV (hv 3) (hv k) j) (k_g_q s s1 zb (w 7) tb sp (hb k) p i q (q + 1) (th k).held.length (th k).held[q].1 (th k).held[q].2 (9 * k) lV (hv 3) (hv k) j) ⟨lh, ln_held hh _, q_ltb (decide_eq_true hq), lh, ip, lp, f1, q_w (by omega) rfl, trivial⟩
    obtain ⟨s2, C2, ψ2, j2, hs2, X2⟩ := ih (q + 1) s1 C1 ψ1 j' (by omega) (X.mv L1 o1 p1)
    exact ⟨s2, C2, ψ2, j2, loop_next hs' hs2, X2⟩
/-- A turn of the outer loop. -/
theorem o_turn (hm : most < 4294967296) (W : RwU lV lb F bL) (X : LawI thr most K M FL th G H s w C ψ tb hb hv Ks sp lb F) (hK : K < 99000) {i zb : Nat} (hi : i < bL.length) (hn : bL.length ≤ 300) (j : Nat → AV) :
    ∃ K' M' FL' th' G' H' s' C' ψ' hb' hv' Ks' j', Sound Tryz.prog (.code c1L (TL zb (w 7) tb sp lV (hv 3) (i64 (Int.ofNat i)) (j 12) (j 13) (j 17) (j 18) (j 19) j) s) ⟨.normal, TL zb (w 7) tb sp lV (hv' 3) (i64 (Int.ofNat (i + 1))) (j' 12) (j' 13) (j' 17) (j' 18) (j' 19) j', s'⟩ ∧ LawI thr most K' M' FL' th' G' H' s' w C' ψ' tb hb' hv' Ks' sp lb F ∧ K' ≤ K + 7 := by
  have hy : bL[i] < 65536 := W.lt _ (List.getElem_mem hi)
  have hk : bL[i] % 3 < 3 := Nat.mod_lt _ (by decide)
  obtain ⟨ro, gF⟩ := X.lbF
  have iq := W.idx i hi
  have lq := W.ld hi gF
  obtain ⟨ja, ha⟩ := run_PQ (o_a_t s zb (w 7) tb sp i bL.length lV (hv 3) j) (o_a_q s zb (w 7) tb sp i bL.length lV (hv 3) j) ⟨W.len s, q_ltb (decide_eq_true hi), trivial⟩
  -- something begins, or is under way
  obtain ⟨K1, M1, FL1, th1, G1, H1, s1, C1, ψ1, hb1, hv1, Ks1, jb, hB, X1, hK1⟩ : ∃ K1 M1 FL1 th1 G1 H1 s1 C1 ψ1 hb1 hv1 Ks1 jb, (∀ c r, Sound Tryz.prog (.code c (TL zb (w 7) tb sp lV (hv1 3) (i64 (Int.ofNat i)) (.ptr tb (9 * (bL[i] % 3))) (jb 13) (jb 17) (jb 18) (jb 19) jb) s1) r → Sound Tryz.prog (.code (seqs ps3 c) (TL zb (w 7) tb sp lV (hv 3) (i64 (Int.ofNat i)) (ja 12) (ja 13) (ja 17) (ja 18) (ja 19) ja) s) r) ∧ LawI thr most K1 M1 FL1 th1 G1 H1 s1 w C1 ψ1 tb hb1 hv1 Ks1 sp lb F ∧ K1 ≤ K + 1 := by
    have id0 := idle_at X.L hk
    by_cases hno : (th (bL[i] % 3)).op = .no
    · rw [noB_op.2 hno] at id0
      obtain ⟨s1, C1, ψ1, b1, v1, f1, L1, o1, m1, e1, p1⟩ := begin_at X.L X.I hk hno (bL[i] / 3 % 7)
      have I1 := begin_ok X.I hk (bL[i] / 3 % 7) hno
      rw [List.append_nil] at I1
      have E1 := begin_ex (w := bL[i] / 3 % 7) (X.E _ hk)
      have h7 : bL[i] / 3 % 7 < 7 := Nat.mod_lt _ (by decide)
      obtain ⟨jb, hB⟩ := run_PQ (o_i_t s s1 zb (w 7) tb sp lb i bL[i] (bL[i] % 3) (9 * (bL[i] % 3)) (bL[i] / 3) (bL[i] / 3 % 7) lV (hv 3) ja) (o_i_q s s1 zb (w 7) tb sp lb i bL[i] (bL[i] % 3) (9 * (bL[i] % 3)) (bL[i] / 3) (bL[i] / 3 % 7) lV (hv 3) ja) ⟨iq, lq, q_w (by omega) rfl, rfl, a_idx tb hk, id0, iq, lq, by
        rw [Qst.ok]
        show some (AV.int .u16 (Int.ofNat (bL[i] / 3 % 65536))) = _
        rw [Nat.mod_eq_of_lt (by omega)], rfl, by
        rw [Qst.ok]
        show some (AV.int .u8 (Int.ofNat (bL[i] / 3 % 7 % 256))) = _
        rw [Nat.mod_eq_of_lt (by omega)], f1, trivial⟩
      have hb' : tun hb (bL[i] % 3) b1 = hb := by
        funext c
        unfold tun
        split
        · rename_i e
          rw [e1, e]
        · rfl
      have hv3 : tun hv (bL[i] % 3) v1 3 = hv 3 := tun_ne _ _ (by omega)
      refine ⟨K + 1, M, FL, _, G, H, s1, C1, ψ1, hb, _, Ks, jb, ?_, ⟨by rw [← hb']; exact L1, I1, tunE th _ _ X.E E1, X.sa, by have := X.gl; omega, by rw [p1]; exact X.sp, X.lbK, X.lbh, ⟨ro, ?_⟩⟩, Nat.le_refl _⟩
      · rw [hv3]
        exact hB
      · rw [o1 lb X.lbK.1 X.lbK.2 (fun e => X.lbh _ (by omega) e.symm)]
        exact gF
    · have nb : noB (kd (th (bL[i] % 3)).op) = false := by
        cases e : noB (kd (th (bL[i] % 3)).op) with
        | false => rfl
        | true => exact absurd (noB_op.1 e) hno
      rw [nb] at id0
      obtain ⟨jb, hB⟩ := run_PQ (o_b_t s zb (w 7) tb sp lb i bL[i] (bL[i] % 3) (9 * (bL[i] % 3)) lV (hv 3) ja) (o_b_q s zb (w 7) tb sp lb i bL[i] (bL[i] % 3) (9 * (bL[i] % 3)) lV (hv 3) ja) ⟨iq, lq, q_w (by omega) rfl, rfl, a_idx tb hk, id0, trivial⟩
      exact ⟨K, M, FL, th, G, H, s, C, ψ, hb, hv, Ks, jb, hB, X, Nat.le_succ _⟩
  obtain ⟨jz, hz⟩ := run_TQ (o_z_t s1 zb (w 7) tb sp i (9 * (bL[i] % 3)) lV (hv1 3) jb) (o_z_q s1 zb (w 7) tb sp i (9 * (bL[i] % 3)) lV (hv1 3) jb) trivial
  obtain ⟨n2, K2, M2, FL2, th2, G2', H2, s2, C2, ψ2, hb2, hv2, Ks2, j2, hN, X2, hK2⟩ := n_loop (zb := zb) hm W hk hi 6 0 K1 M1 FL1 th1 G1 H1 s1 C1 ψ1 hb1 hv1 Ks1 jz rfl (Nat.zero_le _) (by omega) X1
  obtain ⟨jk, hk0⟩ := run_TQ (o_k_t s2 zb (w 7) tb sp i n2 (9 * (bL[i] % 3)) lV (hv2 3) j2) (o_k_q s2 zb (w 7) tb sp i n2 (9 * (bL[i] % 3)) lV (hv2 3) j2) trivial
  obtain ⟨s3, C3, ψ3, j3, hKl, X3⟩ := k_loop (zb := zb) (i := i) (lV := lV) hm hk (th2 (bL[i] % 3)).held.length 0 s2 C2 ψ2 jk (Nat.zero_add _) X2
  obtain ⟨j4, hE⟩ := run_TQ (o_n_t s3 zb (w 7) tb sp i (i + 1) (th2 (bL[i] % 3)).held.length (9 * (bL[i] % 3)) lV (hv2 3) j3) (o_n_q s3 zb (w 7) tb sp i (i + 1) (th2 (bL[i] % 3)).held.length (9 * (bL[i] % 3)) lV (hv2 3) j3) ⟨q_w (by omega) rfl, trivial⟩
  have hIn : Sound Tryz.prog (.code cB3 (TL zb (w 7) tb sp lV (hv 3) (i64 (Int.ofNat i)) (ja 12) (ja 13) (ja 17) (ja 18) (ja 19) ja) s) ⟨.normal, TL zb (w 7) tb sp lV (hv2 3) (i64 (Int.ofNat i)) (.ptr tb (9 * (bL[i] % 3))) (j3 13) (i64 (Int.ofNat (th2 (bL[i] % 3)).held.length)) (j3 18) (j3 19) j3, s3⟩ := by
    rw [cB3_eq]
    exact hB _ _ (seq_next (seq_next hz (block_exit hN rfl)) (seq_next hk0 (block_exit hKl rfl)))
  refine ⟨K2, M2, FL2, th2, G2', H2, s3, C3, ψ3, hb2, hv2, Ks2, j4, ?_, X3, by omega⟩
  rw [c1_eq]
  exact ha _ _ (seq_next (block_past hIn (by simp)) hE)
/-- The outer loop. -/
theorem o_loop (hm : most < 4294967296) (W : RwU lV lb F bL) (hn : bL.length ≤ 300) {zb : Nat} : ∀ (d i K : Nat) (M : PM) (FL : List Nat) (th : Nat → Th) (G : List RefP) (H : HS) (s : AS) (C : Nat → List (Nat × AObj)) (ψ : Nat → Nat → Nat) (hb : Nat → Nat) (hv : Nat → AV) (Ks : List Nat) (j : Nat → AV), i + d = bL.length → K ≤ 100 + 7 * i → LawI thr most K M FL th G H s w C ψ tb hb hv Ks sp lb F →
    ∃ K' M' FL' th' G' H' s' C' ψ' hb' hv' Ks' j', Sound Tryz.prog (.code (.loop c1L) (TL zb (w 7) tb sp lV (hv 3) (i64 (Int.ofNat i)) (j 12) (j 13) (j 17) (j 18) (j 19) j) s) ⟨.exit 2, TL zb (w 7) tb sp lV (hv' 3) (i64 (Int.ofNat bL.length)) (j' 12) (j' 13) (j' 17) (j' 18) (j' 19) j', s'⟩ ∧ LawI thr most K' M' FL' th' G' H' s' w C' ψ' tb hb' hv' Ks' sp lb F ∧ K' ≤ 100 + 7 * bL.length := by
  intro d
  induction d with
  | zero =>
    intro i K M FL th G H s C ψ hb hv Ks j hd hK X
    obtain rfl : i = bL.length := by omega
    obtain ⟨j', hs'⟩ := run_TQ (o_e_t s zb (w 7) tb sp bL.length bL.length lV (hv 3) j) (o_e_q s zb (w 7) tb sp bL.length bL.length lV (hv 3) j) ⟨W.len s, q_ltb (decide_eq_false (by omega)), trivial⟩
    exact ⟨K, M, FL, th, G, H, s, C, ψ, hb, hv, Ks, j', loop_stop hs' (by simp), X, hK⟩
  | succ d ih =>
    intro i K M FL th G H s C ψ hb hv Ks j hd hK X
    obtain ⟨K1, M1, FL1, th1, G1, H1, s1, C1, ψ1, hb1, hv1, Ks1, j1, hs1, X1, hK1⟩ := o_turn (zb := zb) hm W X (by omega) (show i < bL.length by omega) hn j
    obtain ⟨K2, M2, FL2, th2, G2', H2, s2, C2, ψ2, hb2, hv2, Ks2, j2, hs2, X2, hK2⟩ := ih (i + 1) K1 M1 FL1 th1 G1 H1 s1 C1 ψ1 hb1 hv1 Ks1 j1 (by omega) (by omega) X1
    exact ⟨K2, M2, FL2, th2, G2', H2, s2, C2, ψ2, hb2, hv2, Ks2, j2, loop_next hs1 hs2, X2, hK2⟩
end
end Go.Proofs.YtofbdgmknfbkfaaGreatDoor.nodesLife
namespace Go.Proofs.YtofbdgmknfbkfaaGreatDoor.nodesLife
open Go Go.Mini
/-! ### the law's last loops -/
section
variable {thr most K : Nat} {FL : List Nat} {th : Nat → Th} {G : List RefP} {H : HS} {w : Nat → Nat} {tb : Nat} {hb : Nat → Nat} {hv : Nat → AV} {Ks : List Nat} {sp lb : Nat} {F : List AV} {lV : AV}
theorem g_loop {M : PM} {zb : Nat} (hK : K < 100000) : ∀ (d q : Nat) (s : AS) (C : Nat → List (Nat × AObj)) (ψ : Nat → Nat → Nat) (j : Nat → AV), q + d = G.length → LawI thr most K M FL th G H s w C ψ tb hb hv Ks sp lb F →
    ∃ s' C' ψ' j', Sound Tryz.prog (.code (.loop c4L) (TL zb (w 7) tb sp lV (hv 3) (j 11) (j 12) (j 13) (j 17) (i64 (Int.ofNat q)) (j 19) j) s) ⟨.exit 8, TL zb (w 7) tb sp lV (hv 3) (j' 11) (j' 12) (j' 13) (j' 17) (i64 (Int.ofNat G.length)) (j' 19) j', s'⟩ ∧ LawI thr most K M FL th G H s' w C' ψ' tb hb hv Ks sp lb F := by
  intro d
  induction d with
  | zero =>
    intro q s C ψ j hd X
    have hh := X.L.held 3 (by omega)
    rw [show rsOf th G 3 = G from if_neg (by decide)] at hh
    obtain rfl : q = G.length := by omega
    obtain ⟨j', hs'⟩ := run_TQ (g_e_t s s zb (w 7) tb sp 0 0 G.length 0 G.length 0 0 lV (hv 3) j) (g_e_q s s zb (w 7) tb sp 0 0 G.length 0 G.length 0 0 lV (hv 3) j) ⟨ln_held hh _, q_ltb (decide_eq_false (by omega)), trivial⟩
    exact ⟨s, C, ψ, j', loop_stop hs' (by simp), X⟩
  | succ d ih =>
    intro q s C ψ j hd X
    have hh := X.L.held 3 (by omega)
    rw [show rsOf th G 3 = G from if_neg (by decide)] at hh
    have hq : q < G.length := by omega
    have gl := X.gl
    obtain ⟨p, ip, lp⟩ := held_at hh hq
    obtain ⟨s1, C1, ψ1, f1, L1, o1, m1, p1⟩ := fine_at X.L (sa_lt X.sa X.I.lt) G[q].1 G[q].2
    rw [show fineP H (G[q].1, G[q].2) = false from fine_dead X.sa (X.I.G _ (List.getElem_mem hq)), X.sp] at f1
    by_cases hb1 : q + 1 < 1000000
    · obtain ⟨j', hs'⟩ := run_TQ (g_g_t s s1 zb (w 7) tb sp (hb 3) p q (q + 1) G.length G[q].1 G[q].2 lV (hv 3) j) (g_g_q s s1 zb (w 7) tb sp (hb 3) p q (q + 1) G.length G[q].1 G[q].2 lV (hv 3) j) ⟨ln_held hh _, q_ltb (decide_eq_true hq), ip, lp, f1, q_w hb1 rfl, trivial⟩
      obtain ⟨s2, C2, ψ2, j2, hs2, X2⟩ := ih (q + 1) s1 C1 ψ1 j' (by omega) (X.mv L1 o1 p1)
      exact ⟨s2, C2, ψ2, j2, loop_next hs' hs2, X2⟩
    · obtain ⟨j', hs'⟩ := run_TQ (g_g_t s s1 zb (w 7) tb sp (hb 3) p q (q + 1) G.length G[q].1 G[q].2 lV (hv 3) j) (g_g_q s s1 zb (w 7) tb sp (hb 3) p q (q + 1) G.length G[q].1 G[q].2 lV (hv 3) j) ⟨ln_held hh _, q_ltb (decide_eq_true hq), ip, lp, f1, by
        rw [Qst.ok, i64_wrap (by simp only [Int.ofNat_eq_natCast]; omega) (by simp only [Int.ofNat_eq_natCast]; omega)], trivial⟩
      obtain ⟨s2, C2, ψ2, j2, hs2, X2⟩ := ih (q + 1) s1 C1 ψ1 j' (by omega) (X.mv L1 o1 p1)
      exact ⟨s2, C2, ψ2, j2, loop_next hs' hs2, X2⟩
theorem z_loop {zb : Nat} : ∀ (d q : Nat) (M : PM) (s : AS) (C : Nat → List (Nat × AObj)) (ψ : Nat → Nat → Nat) (j : Nat → AV), q + d = 16 → LayL thr most M th G H s w C ψ tb hb hv Ks → Sa H M → Lt M → ψ 3 10 = sp →
    ∃ M' s' C' ψ' j', Sound Tryz.prog (.code (.loop c5L) (TL zb (w 7) tb sp lV (hv 3) (j 11) (j 12) (j 13) (j 17) (j 18) (i64 (Int.ofNat q)) j) s) ⟨.exit 10, TL zb (w 7) tb sp lV (hv 3) (j' 11) (j' 12) (j' 13) (j' 17) (j' 18) (i64 (Int.ofNat 16)) j', s'⟩ ∧ LayL thr most M' th G H s' w C' ψ' tb hb hv Ks := by
  intro d
  induction d with
  | zero =>
    intro q M s C ψ j hd L sa hl hp
    obtain rfl : q = 16 := by omega
    obtain ⟨j', hs'⟩ := run_TQ (z_e_t s s s zb (w 7) tb sp 16 0 0 0 lV (hv 3) j) (z_e_q s s s zb (w 7) tb sp 16 0 0 0 lV (hv 3) j) ⟨by rw [Qst.ok]; rfl, trivial⟩
    exact ⟨M, s, C, ψ, j', loop_stop hs' (by simp), L⟩
  | succ d ih =>
    intro q M s C ψ j hd L sa hl hp
    obtain ⟨s1, C1, ψ1, f1, L1, o1, m1, p1⟩ := of_at L (sa_lt sa hl) q
    obtain ⟨s2, C2, ψ2, f2, L2, o2, m2, p2⟩ := hdr_at L1 hl q
    rw [sa q, hp] at f1
    have hq16 : (Qst.val (some (.bool (decide (Int.ofNat q < 16)))) (.bool true)).ok Tryz.prog := by
      rw [Qst.ok, show decide (Int.ofNat q < 16) = true from decide_eq_true (by simp only [Int.ofNat_eq_natCast]; omega)]
    obtain ⟨j', hs'⟩ := run_TQ (z_g_t s s1 s2 zb (w 7) tb sp q (q + 1) (hs (hdr M q)) (hg (hdr M q)) lV (hv 3) j) (z_g_q s s1 s2 zb (w 7) tb sp q (q + 1) (hs (hdr M q)) (hg (hdr M q)) lV (hv 3) j) ⟨hq16, f1, f2, q_ne rfl, q_ne rfl, q_w (by omega) rfl, trivial⟩
    obtain ⟨M3, s3, C3, ψ3, j3, hs3, L3⟩ := ih (q + 1) (M.load (aZ q 0)) s2 C2 ψ2 j' (by omega) L2 (fun z => sa z) (fun a => hl a) (p2.trans (p1.trans hp))
    exact ⟨M3, s3, C3, ψ3, j3, loop_next hs' hs3, L3⟩
end
end Go.Proofs.YtofbdgmknfbkfaaGreatDoor.nodesLife
