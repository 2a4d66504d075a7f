/- What an op answers, and what it makes of the state, wherever that lies. Conditions: those that each theorem names, and no others. -/
import Derived.Test.YthooafgfpnedhaaJud2
namespace Go.Proofs.Ythooafgfpnedhaa.specsJudge
open Go Go.Mini
def p4 (b b5 b6 b7 x : Nat) : Nat := if x = 4 then b else if x = 5 then b5 else if x = 6 then b6 else b7
theorem get_set {s : AS} {b c : Nat} {o : AObj} : (s.set b o).get c = if c = b then (s.get b).map fun _ => o else s.get c := getB_setB b o c s.h.bs
section
variable {P : Program} {f : FuncId} {args vs : List AV} {e : AExit} {s : AS} {b bm : Nat} {X Y X' Y' : AObj}
theorem rec_same2 (h : Sound P (.call f args s) ⟨e, vs, (s.set b X).set bm Y⟩) (hb : s.get b = some X) (hm : s.get bm = some Y) : Sound P (.call f args s) ⟨e, vs, s⟩ :=
  Sound.recast h (fun c => by rw [get_set_same (by rw [get_set_same hb]; exact hm), get_set_same hb]) (by show _ = (setB (setB s.h.bs b X) bm Y).map (·.1); rw [setB_keys, setB_keys]; rfl) rfl rfl ⟨[], rfl, fun _ _ _ => rfl⟩
theorem rec_half2 (h : Sound P (.call f args s) ⟨e, vs, (s.set b X).set bm Y⟩) (hb : s.get b = some X) : Sound P (.call f args s) ⟨e, vs, s.set bm Y⟩ :=
  Sound.recast h (fun c => by rw [get_set, get_set, get_set_same hb, get_set_same hb]) (by show (setB s.h.bs bm Y).map (·.1) = (setB (setB s.h.bs b X) bm Y).map (·.1); rw [setB_keys, setB_keys, setB_keys]) rfl rfl ⟨[bm], rfl, fun c _ hc => get_set_ne (by simpa using hc)⟩
theorem rec_first2 (h : Sound P (.call f args s) ⟨e, vs, (s.set b X).set bm Y⟩) (hm : s.get bm = some Y) (hne : b ≠ bm) : Sound P (.call f args s) ⟨e, vs, s.set b X⟩ :=
  Sound.recast h (fun c => by rw [get_set_same (s := s.set b X) (by rw [get_set_ne hne.symm]; exact hm)]) (by show (setB s.h.bs b X).map (·.1) = (setB (setB s.h.bs b X) bm Y).map (·.1); rw [setB_keys, setB_keys, setB_keys]) rfl rfl ⟨[b], rfl, fun c _ hc => get_set_ne (by simpa using hc)⟩
theorem rec_same1 (h : Sound P (.call f args s) ⟨e, vs, s.set b X⟩) (hb : s.get b = some X) : Sound P (.call f args s) ⟨e, vs, s⟩ :=
  Sound.recast h (fun c => by rw [get_set_same hb]) (by show _ = (setB s.h.bs b X).map (·.1); rw [setB_keys]; rfl) rfl rfl ⟨[], rfl, fun _ _ _ => rfl⟩
end
theorem pN_8 {a : AV} {l : List Nat} (h : a.names (fun b => Nat.blt b 8) = true) : a.names (pN 8 l) = true := names_sub (fun b hb => by unfold pN; rw [show Nat.blt b 8 = true from hb]; rfl) h
theorem app_off {s : AS} {b b2 c2 o n : Nat} {ro : Bool} {Q : List Int} {v : Int} (hb : s.get b = some (.cells false (uc Q))) (ho : o + n = Q.length) (h2 : s.get b2 = some (.cells ro [.int .u64 v])) (hk : n < 16777216) :
    appendA Try.prog s 30 30 (.osl b o n 1) (.slice b2 0 1 c2) = some (.osl s.nx 0 (n + 1) 1, (s.set b .dead).push (.cells false (uc (Q.drop o ++ [v])))) := by
  obtain ⟨elem, e2, i, z, size, u1, u2, u3, u4, u5, u0, u6, u7⟩ := rowT_inv (P := Try.prog) (t := 30) (t2 := 30) (n := 1) (by kernel_rfl)
  have hs0 : size = 0 := by omega
  subst hs0
  have hf : firstA s 1 1 (.slice b2 0 1 c2) = some [.int .u64 v] := by
    simp only [firstA, readA, h2, List.drop_zero, Nat.one_mul]
    exact takeN_all rfl
  have hd : readA s b o (n * 1) = some (uc (Q.drop o)) := by
    simp only [readA, hb, uc, ← List.map_drop]
    refine takeN_all ?_
    simp
    omega
  have ones : ∀ L : List Int, (uc L).all AV.one = true := fun L => by simp [uc, AV.one]
  have hs : small (n + 1) = true := by
    unfold small
    exact Nat.ble_eq_true_of_le (by omega)
  have hw : rwAt s b = true := by simp only [rwAt, hb]
  have h10 : Nat.beq 1 0 = false := rfl
  have h11 : Nat.beq 1 1 = true := rfl
  have h12 : Nat.beq 1 (0 + 1) = true := rfl
  simp only [appendA, u1, u3, u4, u5, sliceLen, u6, u7, Nat.zero_add, hf, hd, hs, hw, ones, h10, h11, List.all_cons, List.all_nil, AV.one, Bool.and_self, Bool.not_true, Bool.false_eq_true, if_false, if_true]
  simp only [uc, List.map_append, List.map_cons, List.map_nil]
theorem q_len0 {n : Nat} (hn : n ≠ 0) : (Qst.val (some (.bool (Int.ofNat n == Int.ofNat 0))) (.bool false)).ok Try.prog := by
  simp only [Qst.ok]
  congr 2
  simpa using hn
theorem t30 : Try.prog.underlying 30 = some (.slice 22) := by kernel_rfl
theorem s22 : sizeA Try.prog 22 = some 1 := by kernel_rfl
theorem a22 : isAggA Try.prog 22 = some false := by kernel_rfl
theorem q_idx0 {b o n : Nat} (hn : n ≠ 0) : (Qst.idx 30 (.osl b o n 1) (.int .i64 (Int.ofNat 0)) (.ptr b o)).ok Try.prog := by
  simp only [Qst.ok, indexAddrA, t30, s22]
  rw [if_pos ⟨by simp, by simp; omega⟩]
  simp
theorem q_ld {s : AS} {b o : Nat} {Q : List Int} {x : Int} {ro : Bool} (hx : Q[o]? = some x) (hs : s.get b = some (.cells ro (uc Q)) := by rfl) : (Qst.ld 22 s (.ptr b o) (.int .u64 x)).ok Try.prog :=
  ld_cell a22 hs (by simp [uc, hx])
theorem q_sli {b o n : Nat} (hn : n ≠ 0) : (Qst.sli 30 (.osl b o n 1) (some (.int .i64 (Int.ofNat 1))) none none (.osl b (o + 1) (n - 1) 1)).ok Try.prog := by
  have h1 : (1 : Int) ≤ (n : Int) := by omega
  simp only [Qst.ok, sliceA, t30, s22, boundA]
  simp [h1]
theorem and2 {a b : Bool} (h1 : a = true) (h2 : b = true) : (a && b) = true := by rw [h1, h2]; rfl
theorem D0y {s : AS} {b : Nat} {bm : Nat} {ck : Nat} {bn : List Nat} {es : List (Int × Int)} {t : AV} {q : AV} {k : Int} {v : Int} {x : Int} (hb : s.get b = some (.cells false [.map bm, t, q])) (hm : s.get bm = some (.map (mapE .u64 .u64 es) bn ck)) (ht : Mp t) (hq : Ql q) (hx : getM es k = some x) : Sound Try.prog (.call 9 [.ptr b 0, .int .u8 (Int.ofNat 0), .int .u64 k, .int .u64 v] s) ⟨.ret, [.tuple [.int .u8 (Int.ofNat 2), .int .u64 (Int.ofNat 0)]], s⟩ := by
  have hne : b ≠ bm := fun h => by rw [h, hm] at hb; cases hb
  obtain ⟨t0, c6, nt, rt⟩ := ht.small 6 (by decide)
  obtain ⟨q0, c7, nq, rq⟩ := hq.small 7 (by decide)
  have h := put2 (runX_sound mixed none_sound (d0y (.map (mapE .u64 .u64 es) bn ck) .dead 0 0 [] [] t0 q0 k v x) ⟨lk_in rfl hx, trivial⟩) [] rfl rfl (and2 rfl (and2 nt (and2 nq rfl))) (names_mapE _ _) rfl (and2 rfl (and2 (pN_8 nt) (and2 (pN_8 nq) rfl))) (names_mapE _ _) (.inl rfl) trivial List.nodup_nil rfl (p4 b bm c6 c7) hne (s := s) (by show s.get b = some (.cells false [.map bm, t0.ren _, q0.ren _]); rw [rt _ rfl, rq _ rfl]; exact hb) (by show s.get bm = some (.map (renE _ _) bn ck); rw [ren_mapE]; exact hm)
  have e4 : ∀ n l, (AObj.cells false (rens (pR 8 l (p4 b bm c6 c7) n) [.map 5, t0, q0])) = .cells false [.map bm, t, q] := fun n l => by
    show AObj.cells false [.map bm, t0.ren _, q0.ren _] = _
    rw [rt _ rfl, rq _ rfl]
  rw [e4] at h
  simp only [AObj.ren, ren_mapE, List.map_nil, pushL] at h
  exact rec_same2 h hb hm
theorem D0a {s : AS} {b : Nat} {bm : Nat} {ck : Nat} {bn : List Nat} {es : List (Int × Int)} {t : AV} {q : AV} {k : Int} {v : Int} (hb : s.get b = some (.cells false [.map bm, t, q])) (hm : s.get bm = some (.map (mapE .u64 .u64 es) bn ck)) (ht : Mp t) (hq : Ql q) (hx : getM es k = none) : Sound Try.prog (.call 9 [.ptr b 0, .int .u8 (Int.ofNat 0), .int .u64 k, .int .u64 v] s) ⟨.ret, [.tuple [.int .u8 (Int.ofNat 1), .int .u64 (Int.ofNat 0)]], s.set bm (.map (mapE .u64 .u64 (putM es k (Int.ofNat 0))) (bn ++ [ck]) (ck + 1))⟩ := by
  have hne : b ≠ bm := fun h => by rw [h, hm] at hb; cases hb
  obtain ⟨t0, c6, nt, rt⟩ := ht.small 6 (by decide)
  obtain ⟨q0, c7, nq, rq⟩ := hq.small 7 (by decide)
  have h := put2 (runX_sound mixed none_sound (d0a (.map (mapE .u64 .u64 es) bn ck) (.map (mapE .u64 .u64 (putM es k (Int.ofNat 0))) (bn ++ [ck]) (ck + 1)) 0 0 [] [] t0 q0 k v 0) ⟨lk_out rfl hx, ⟨upd_out (Int.ofNat 0) rfl hx, rfl⟩, trivial⟩) [] rfl rfl (and2 rfl (and2 nt (and2 nq rfl))) (names_mapE _ _) rfl (and2 rfl (and2 (pN_8 nt) (and2 (pN_8 nq) rfl))) (names_mapE _ _) (.inl rfl) trivial List.nodup_nil rfl (p4 b bm c6 c7) hne (s := s) (by show s.get b = some (.cells false [.map bm, t0.ren _, q0.ren _]); rw [rt _ rfl, rq _ rfl]; exact hb) (by show s.get bm = some (.map (renE _ _) bn ck); rw [ren_mapE]; exact hm)
  have e4 : ∀ n l, (AObj.cells false (rens (pR 8 l (p4 b bm c6 c7) n) [.map 5, t0, q0])) = .cells false [.map bm, t, q] := fun n l => by
    show AObj.cells false [.map bm, t0.ren _, q0.ren _] = _
    rw [rt _ rfl, rq _ rfl]
  rw [e4] at h
  simp only [AObj.ren, ren_mapE, List.map_nil, pushL] at h
  exact rec_half2 h hb
theorem D0n {s : AS} {b : Nat} {t : AV} {q : AV} {k : Int} {v : Int} (hb : s.get b = some (.cells false [.nilMap, t, q])) (ht : Mp t) (hq : Ql q) : Sound Try.prog (.call 9 [.ptr b 0, .int .u8 (Int.ofNat 0), .int .u64 k, .int .u64 v] s) ⟨.ret, [.tuple [.int .u8 (Int.ofNat 1), .int .u64 (Int.ofNat 0)]], (s.set b (.cells false [.map s.nx, t, q])).push (.map [(.int .u64 k, .int .u64 (Int.ofNat 0))] [0] 1)⟩ := by
  obtain ⟨t0, c6, nt, rt⟩ := ht.small 6 (by decide)
  obtain ⟨q0, c7, nq, rq⟩ := hq.small 7 (by decide)
  have h := put1 (runX_sound mixed none_sound (d0n .dead .dead 0 0 [] [] t0 q0 k v 0) trivial) [(15, .map [(.int .u64 k, .int .u64 (Int.ofNat 0))] [0] 1)] rfl (and2 rfl (and2 nt (and2 nq rfl))) (and2 rfl (and2 (pN_8 nt) (and2 (pN_8 nq) rfl))) ⟨⟨show 8 ≤ 15 by decide, rfl, rfl, rfl⟩, trivial⟩ (show [15].Nodup by decide) rfl (p4 b 0 c6 c7) (s := s) (by show s.get b = some (.cells false [.nilMap, t0.ren _, q0.ren _]); rw [rt _ rfl, rq _ rfl]; exact hb)
  have e4 : (AObj.cells false (rens (pR 8 [15] (p4 b 0 c6 c7) s.nx) [.map 15, t0, q0])) = .cells false [.map s.nx, t, q] := by
    show AObj.cells false [.map (s.nx + 0), t0.ren _, q0.ren _] = _
    rw [rt _ rfl, rq _ rfl, Nat.add_zero]
  simp only [List.map_cons, List.map_nil] at h
  rw [e4] at h
  exact h
theorem D1y {s : AS} {b : Nat} {bm : Nat} {ck : Nat} {bn : List Nat} {es : List (Int × Int)} {t : AV} {q : AV} {k : Int} {v : Int} {x : Int} (hb : s.get b = some (.cells false [.map bm, t, q])) (hm : s.get bm = some (.map (mapE .u64 .u64 es) bn ck)) (ht : Mp t) (hq : Ql q) (hx : getM es k = some x) : Sound Try.prog (.call 9 [.ptr b 0, .int .u8 (Int.ofNat 1), .int .u64 k, .int .u64 v] s) ⟨.ret, [.tuple [.int .u8 (Int.ofNat 1), .int .u64 (Int.ofNat 0)]], s.set bm (.map (mapE .u64 .u64 (delM es k)) (bn.eraseIdx (posM es k)) ck)⟩ := by
  have hne : b ≠ bm := fun h => by rw [h, hm] at hb; cases hb
  obtain ⟨t0, c6, nt, rt⟩ := ht.small 6 (by decide)
  obtain ⟨q0, c7, nq, rq⟩ := hq.small 7 (by decide)
  have h := put2 (runX_sound mixed none_sound (d1y (.map (mapE .u64 .u64 es) bn ck) (.map (mapE .u64 .u64 (delM es k)) (bn.eraseIdx (posM es k)) ck) 0 0 [] [] t0 q0 k v x) ⟨lk_in rfl hx, ⟨del_in rfl hx, rfl⟩, trivial⟩) [] rfl rfl (and2 rfl (and2 nt (and2 nq rfl))) (names_mapE _ _) rfl (and2 rfl (and2 (pN_8 nt) (and2 (pN_8 nq) rfl))) (names_mapE _ _) (.inl rfl) trivial List.nodup_nil rfl (p4 b bm c6 c7) hne (s := s) (by show s.get b = some (.cells false [.map bm, t0.ren _, q0.ren _]); rw [rt _ rfl, rq _ rfl]; exact hb) (by show s.get bm = some (.map (renE _ _) bn ck); rw [ren_mapE]; exact hm)
  have e4 : ∀ n l, (AObj.cells false (rens (pR 8 l (p4 b bm c6 c7) n) [.map 5, t0, q0])) = .cells false [.map bm, t, q] := fun n l => by
    show AObj.cells false [.map bm, t0.ren _, q0.ren _] = _
    rw [rt _ rfl, rq _ rfl]
  rw [e4] at h
  simp only [AObj.ren, ren_mapE, List.map_nil, pushL] at h
  exact rec_half2 h hb
theorem D1a {s : AS} {b : Nat} {bm : Nat} {ck : Nat} {bn : List Nat} {es : List (Int × Int)} {t : AV} {q : AV} {k : Int} {v : Int} (hb : s.get b = some (.cells false [.map bm, t, q])) (hm : s.get bm = some (.map (mapE .u64 .u64 es) bn ck)) (ht : Mp t) (hq : Ql q) (hx : getM es k = none) : Sound Try.prog (.call 9 [.ptr b 0, .int .u8 (Int.ofNat 1), .int .u64 k, .int .u64 v] s) ⟨.ret, [.tuple [.int .u8 (Int.ofNat 2), .int .u64 (Int.ofNat 0)]], s⟩ := by
  have hne : b ≠ bm := fun h => by rw [h, hm] at hb; cases hb
  obtain ⟨t0, c6, nt, rt⟩ := ht.small 6 (by decide)
  obtain ⟨q0, c7, nq, rq⟩ := hq.small 7 (by decide)
  have h := put2 (runX_sound mixed none_sound (d1a (.map (mapE .u64 .u64 es) bn ck) .dead 0 0 [] [] t0 q0 k v 0) ⟨lk_out rfl hx, ⟨del_out rfl hx, rfl⟩, trivial⟩) [] rfl rfl (and2 rfl (and2 nt (and2 nq rfl))) (names_mapE _ _) rfl (and2 rfl (and2 (pN_8 nt) (and2 (pN_8 nq) rfl))) (names_mapE _ _) (.inl rfl) trivial List.nodup_nil rfl (p4 b bm c6 c7) hne (s := s) (by show s.get b = some (.cells false [.map bm, t0.ren _, q0.ren _]); rw [rt _ rfl, rq _ rfl]; exact hb) (by show s.get bm = some (.map (renE _ _) bn ck); rw [ren_mapE]; exact hm)
  have e4 : ∀ n l, (AObj.cells false (rens (pR 8 l (p4 b bm c6 c7) n) [.map 5, t0, q0])) = .cells false [.map bm, t, q] := fun n l => by
    show AObj.cells false [.map bm, t0.ren _, q0.ren _] = _
    rw [rt _ rfl, rq _ rfl]
  rw [e4] at h
  simp only [AObj.ren, ren_mapE, List.map_nil, pushL] at h
  exact rec_same2 h hb hm
theorem D1n {s : AS} {b : Nat} {t : AV} {q : AV} {k : Int} {v : Int} (hb : s.get b = some (.cells false [.nilMap, t, q])) (ht : Mp t) (hq : Ql q) : Sound Try.prog (.call 9 [.ptr b 0, .int .u8 (Int.ofNat 1), .int .u64 k, .int .u64 v] s) ⟨.ret, [.tuple [.int .u8 (Int.ofNat 2), .int .u64 (Int.ofNat 0)]], s⟩ := by
  obtain ⟨t0, c6, nt, rt⟩ := ht.small 6 (by decide)
  obtain ⟨q0, c7, nq, rq⟩ := hq.small 7 (by decide)
  have h := put1 (runX_sound mixed none_sound (d1n .dead .dead 0 0 [] [] t0 q0 k v 0) trivial) [] rfl (and2 rfl (and2 nt (and2 nq rfl))) (and2 rfl (and2 (pN_8 nt) (and2 (pN_8 nq) rfl))) trivial List.nodup_nil rfl (p4 b 0 c6 c7) (s := s) (by show s.get b = some (.cells false [.nilMap, t0.ren _, q0.ren _]); rw [rt _ rfl, rq _ rfl]; exact hb)
  have e4 : ∀ n l, (AObj.cells false (rens (pR 8 l (p4 b 0 c6 c7) n) [.nilMap, t0, q0])) = .cells false [.nilMap, t, q] := fun n l => by
    show AObj.cells false [.nilMap, t0.ren _, q0.ren _] = _
    rw [rt _ rfl, rq _ rfl]
  rw [e4] at h
  exact rec_same1 h hb
theorem D2y {s : AS} {b : Nat} {bm : Nat} {ck : Nat} {bn : List Nat} {es : List (Int × Int)} {t : AV} {q : AV} {k : Int} {v : Int} {x : Int} (hb : s.get b = some (.cells false [.map bm, t, q])) (hm : s.get bm = some (.map (mapE .u64 .u64 es) bn ck)) (ht : Mp t) (hq : Ql q) (hx : getM es k = some x) : Sound Try.prog (.call 9 [.ptr b 0, .int .u8 (Int.ofNat 2), .int .u64 k, .int .u64 v] s) ⟨.ret, [.tuple [.int .u8 (Int.ofNat 1), .int .u64 (Int.ofNat 0)]], s⟩ := by
  have hne : b ≠ bm := fun h => by rw [h, hm] at hb; cases hb
  obtain ⟨t0, c6, nt, rt⟩ := ht.small 6 (by decide)
  obtain ⟨q0, c7, nq, rq⟩ := hq.small 7 (by decide)
  have h := put2 (runX_sound mixed none_sound (d2y (.map (mapE .u64 .u64 es) bn ck) .dead 0 0 [] [] t0 q0 k v x) ⟨lk_in rfl hx, trivial⟩) [] rfl rfl (and2 rfl (and2 nt (and2 nq rfl))) (names_mapE _ _) rfl (and2 rfl (and2 (pN_8 nt) (and2 (pN_8 nq) rfl))) (names_mapE _ _) (.inl rfl) trivial List.nodup_nil rfl (p4 b bm c6 c7) hne (s := s) (by show s.get b = some (.cells false [.map bm, t0.ren _, q0.ren _]); rw [rt _ rfl, rq _ rfl]; exact hb) (by show s.get bm = some (.map (renE _ _) bn ck); rw [ren_mapE]; exact hm)
  have e4 : ∀ n l, (AObj.cells false (rens (pR 8 l (p4 b bm c6 c7) n) [.map 5, t0, q0])) = .cells false [.map bm, t, q] := fun n l => by
    show AObj.cells false [.map bm, t0.ren _, q0.ren _] = _
    rw [rt _ rfl, rq _ rfl]
  rw [e4] at h
  simp only [AObj.ren, ren_mapE, List.map_nil, pushL] at h
  exact rec_same2 h hb hm
theorem D2a {s : AS} {b : Nat} {bm : Nat} {ck : Nat} {bn : List Nat} {es : List (Int × Int)} {t : AV} {q : AV} {k : Int} {v : Int} (hb : s.get b = some (.cells false [.map bm, t, q])) (hm : s.get bm = some (.map (mapE .u64 .u64 es) bn ck)) (ht : Mp t) (hq : Ql q) (hx : getM es k = none) : Sound Try.prog (.call 9 [.ptr b 0, .int .u8 (Int.ofNat 2), .int .u64 k, .int .u64 v] s) ⟨.ret, [.tuple [.int .u8 (Int.ofNat 2), .int .u64 (Int.ofNat 0)]], s⟩ := by
  have hne : b ≠ bm := fun h => by rw [h, hm] at hb; cases hb
  obtain ⟨t0, c6, nt, rt⟩ := ht.small 6 (by decide)
  obtain ⟨q0, c7, nq, rq⟩ := hq.small 7 (by decide)
  have h := put2 (runX_sound mixed none_sound (d2a (.map (mapE .u64 .u64 es) bn ck) .dead 0 0 [] [] t0 q0 k v 0) ⟨lk_out rfl hx, trivial⟩) [] rfl rfl (and2 rfl (and2 nt (and2 nq rfl))) (names_mapE _ _) rfl (and2 rfl (and2 (pN_8 nt) (and2 (pN_8 nq) rfl))) (names_mapE _ _) (.inl rfl) trivial List.nodup_nil rfl (p4 b bm c6 c7) hne (s := s) (by show s.get b = some (.cells false [.map bm, t0.ren _, q0.ren _]); rw [rt _ rfl, rq _ rfl]; exact hb) (by show s.get bm = some (.map (renE _ _) bn ck); rw [ren_mapE]; exact hm)
  have e4 : ∀ n l, (AObj.cells false (rens (pR 8 l (p4 b bm c6 c7) n) [.map 5, t0, q0])) = .cells false [.map bm, t, q] := fun n l => by
    show AObj.cells false [.map bm, t0.ren _, q0.ren _] = _
    rw [rt _ rfl, rq _ rfl]
  rw [e4] at h
  simp only [AObj.ren, ren_mapE, List.map_nil, pushL] at h
  exact rec_same2 h hb hm
theorem D2n {s : AS} {b : Nat} {t : AV} {q : AV} {k : Int} {v : Int} (hb : s.get b = some (.cells false [.nilMap, t, q])) (ht : Mp t) (hq : Ql q) : Sound Try.prog (.call 9 [.ptr b 0, .int .u8 (Int.ofNat 2), .int .u64 k, .int .u64 v] s) ⟨.ret, [.tuple [.int .u8 (Int.ofNat 2), .int .u64 (Int.ofNat 0)]], s⟩ := by
  obtain ⟨t0, c6, nt, rt⟩ := ht.small 6 (by decide)
  obtain ⟨q0, c7, nq, rq⟩ := hq.small 7 (by decide)
  have h := put1 (runX_sound mixed none_sound (d2n .dead .dead 0 0 [] [] t0 q0 k v 0) trivial) [] rfl (and2 rfl (and2 nt (and2 nq rfl))) (and2 rfl (and2 (pN_8 nt) (and2 (pN_8 nq) rfl))) trivial List.nodup_nil rfl (p4 b 0 c6 c7) (s := s) (by show s.get b = some (.cells false [.nilMap, t0.ren _, q0.ren _]); rw [rt _ rfl, rq _ rfl]; exact hb)
  have e4 : ∀ n l, (AObj.cells false (rens (pR 8 l (p4 b 0 c6 c7) n) [.nilMap, t0, q0])) = .cells false [.nilMap, t, q] := fun n l => by
    show AObj.cells false [.nilMap, t0.ren _, q0.ren _] = _
    rw [rt _ rfl, rq _ rfl]
  rw [e4] at h
  exact rec_same1 h hb
theorem D5y {s : AS} {b : Nat} {bm : Nat} {ck : Nat} {bn : List Nat} {es : List (Int × Int)} {t : AV} {q : AV} {k : Int} {v : Int} {x : Int} (hb : s.get b = some (.cells false [t, .map bm, q])) (hm : s.get bm = some (.map (mapE .u64 .u64 es) bn ck)) (ht : Mp t) (hq : Ql q) (hx : getM es k = some x) : Sound Try.prog (.call 9 [.ptr b 0, .int .u8 (Int.ofNat 5), .int .u64 k, .int .u64 v] s) ⟨.ret, [.tuple [.int .u8 (Int.ofNat 2), .int .u64 (Int.ofNat 0)]], s⟩ := by
  have hne : b ≠ bm := fun h => by rw [h, hm] at hb; cases hb
  obtain ⟨t0, c6, nt, rt⟩ := ht.small 6 (by decide)
  obtain ⟨q0, c7, nq, rq⟩ := hq.small 7 (by decide)
  have h := put2 (runX_sound mixed none_sound (d5y (.map (mapE .u64 .u64 es) bn ck) .dead 0 0 [] [] t0 q0 k v x) ⟨lk_in rfl hx, trivial⟩) [] rfl rfl (and2 nt (and2 rfl (and2 nq rfl))) (names_mapE _ _) rfl (and2 (pN_8 nt) (and2 rfl (and2 (pN_8 nq) rfl))) (names_mapE _ _) (.inl rfl) trivial List.nodup_nil rfl (p4 b bm c6 c7) hne (s := s) (by show s.get b = some (.cells false [t0.ren _, .map bm, q0.ren _]); rw [rt _ rfl, rq _ rfl]; exact hb) (by show s.get bm = some (.map (renE _ _) bn ck); rw [ren_mapE]; exact hm)
  have e4 : ∀ n l, (AObj.cells false (rens (pR 8 l (p4 b bm c6 c7) n) [t0, .map 5, q0])) = .cells false [t, .map bm, q] := fun n l => by
    show AObj.cells false [t0.ren _, .map bm, q0.ren _] = _
    rw [rt _ rfl, rq _ rfl]
  rw [e4] at h
  simp only [AObj.ren, ren_mapE, List.map_nil, pushL] at h
  exact rec_same2 h hb hm
theorem D5a {s : AS} {b : Nat} {bm : Nat} {ck : Nat} {bn : List Nat} {es : List (Int × Int)} {t : AV} {q : AV} {k : Int} {v : Int} (hb : s.get b = some (.cells false [t, .map bm, q])) (hm : s.get bm = some (.map (mapE .u64 .u64 es) bn ck)) (ht : Mp t) (hq : Ql q) (hx : getM es k = none) : Sound Try.prog (.call 9 [.ptr b 0, .int .u8 (Int.ofNat 5), .int .u64 k, .int .u64 v] s) ⟨.ret, [.tuple [.int .u8 (Int.ofNat 1), .int .u64 (Int.ofNat 0)]], s.set bm (.map (mapE .u64 .u64 (putM es k v)) (bn ++ [ck]) (ck + 1))⟩ := by
  have hne : b ≠ bm := fun h => by rw [h, hm] at hb; cases hb
  obtain ⟨t0, c6, nt, rt⟩ := ht.small 6 (by decide)
  obtain ⟨q0, c7, nq, rq⟩ := hq.small 7 (by decide)
  have h := put2 (runX_sound mixed none_sound (d5a (.map (mapE .u64 .u64 es) bn ck) (.map (mapE .u64 .u64 (putM es k v)) (bn ++ [ck]) (ck + 1)) 0 0 [] [] t0 q0 k v 0) ⟨lk_out rfl hx, ⟨upd_out v rfl hx, rfl⟩, trivial⟩) [] rfl rfl (and2 nt (and2 rfl (and2 nq rfl))) (names_mapE _ _) rfl (and2 (pN_8 nt) (and2 rfl (and2 (pN_8 nq) rfl))) (names_mapE _ _) (.inl rfl) trivial List.nodup_nil rfl (p4 b bm c6 c7) hne (s := s) (by show s.get b = some (.cells false [t0.ren _, .map bm, q0.ren _]); rw [rt _ rfl, rq _ rfl]; exact hb) (by show s.get bm = some (.map (renE _ _) bn ck); rw [ren_mapE]; exact hm)
  have e4 : ∀ n l, (AObj.cells false (rens (pR 8 l (p4 b bm c6 c7) n) [t0, .map 5, q0])) = .cells false [t, .map bm, q] := fun n l => by
    show AObj.cells false [t0.ren _, .map bm, q0.ren _] = _
    rw [rt _ rfl, rq _ rfl]
  rw [e4] at h
  simp only [AObj.ren, ren_mapE, List.map_nil, pushL] at h
  exact rec_half2 h hb
theorem D5n {s : AS} {b : Nat} {t : AV} {q : AV} {k : Int} {v : Int} (hb : s.get b = some (.cells false [t, .nilMap, q])) (ht : Mp t) (hq : Ql q) : Sound Try.prog (.call 9 [.ptr b 0, .int .u8 (Int.ofNat 5), .int .u64 k, .int .u64 v] s) ⟨.ret, [.tuple [.int .u8 (Int.ofNat 1), .int .u64 (Int.ofNat 0)]], (s.set b (.cells false [t, .map s.nx, q])).push (.map [(.int .u64 k, .int .u64 v)] [0] 1)⟩ := by
  obtain ⟨t0, c6, nt, rt⟩ := ht.small 6 (by decide)
  obtain ⟨q0, c7, nq, rq⟩ := hq.small 7 (by decide)
  have h := put1 (runX_sound mixed none_sound (d5n .dead .dead 0 0 [] [] t0 q0 k v 0) trivial) [(15, .map [(.int .u64 k, .int .u64 v)] [0] 1)] rfl (and2 nt (and2 rfl (and2 nq rfl))) (and2 (pN_8 nt) (and2 rfl (and2 (pN_8 nq) rfl))) ⟨⟨show 8 ≤ 15 by decide, rfl, rfl, rfl⟩, trivial⟩ (show [15].Nodup by decide) rfl (p4 b 0 c6 c7) (s := s) (by show s.get b = some (.cells false [t0.ren _, .nilMap, q0.ren _]); rw [rt _ rfl, rq _ rfl]; exact hb)
  have e4 : (AObj.cells false (rens (pR 8 [15] (p4 b 0 c6 c7) s.nx) [t0, .map 15, q0])) = .cells false [t, .map s.nx, q] := by
    show AObj.cells false [t0.ren _, .map (s.nx + 0), q0.ren _] = _
    rw [rt _ rfl, rq _ rfl, Nat.add_zero]
  simp only [List.map_cons, List.map_nil] at h
  rw [e4] at h
  exact h
theorem D6y {s : AS} {b : Nat} {bm : Nat} {ck : Nat} {bn : List Nat} {es : List (Int × Int)} {t : AV} {q : AV} {k : Int} {v : Int} {x : Int} (hb : s.get b = some (.cells false [t, .map bm, q])) (hm : s.get bm = some (.map (mapE .u64 .u64 es) bn ck)) (ht : Mp t) (hq : Ql q) (hx : getM es k = some x) : Sound Try.prog (.call 9 [.ptr b 0, .int .u8 (Int.ofNat 6), .int .u64 k, .int .u64 v] s) ⟨.ret, [.tuple [.int .u8 (Int.ofNat 1), .int .u64 (Int.ofNat 0)]], s.set bm (.map (mapE .u64 .u64 (delM es k)) (bn.eraseIdx (posM es k)) ck)⟩ := by
  have hne : b ≠ bm := fun h => by rw [h, hm] at hb; cases hb
  obtain ⟨t0, c6, nt, rt⟩ := ht.small 6 (by decide)
  obtain ⟨q0, c7, nq, rq⟩ := hq.small 7 (by decide)
  have h := put2 (runX_sound mixed none_sound (d6y (.map (mapE .u64 .u64 es) bn ck) (.map (mapE .u64 .u64 (delM es k)) (bn.eraseIdx (posM es k)) ck) 0 0 [] [] t0 q0 k v x) ⟨lk_in rfl hx, ⟨del_in rfl hx, rfl⟩, trivial⟩) [] rfl rfl (and2 nt (and2 rfl (and2 nq rfl))) (names_mapE _ _) rfl (and2 (pN_8 nt) (and2 rfl (and2 (pN_8 nq) rfl))) (names_mapE _ _) (.inl rfl) trivial List.nodup_nil rfl (p4 b bm c6 c7) hne (s := s) (by show s.get b = some (.cells false [t0.ren _, .map bm, q0.ren _]); rw [rt _ rfl, rq _ rfl]; exact hb) (by show s.get bm = some (.map (renE _ _) bn ck); rw [ren_mapE]; exact hm)
  have e4 : ∀ n l, (AObj.cells false (rens (pR 8 l (p4 b bm c6 c7) n) [t0, .map 5, q0])) = .cells false [t, .map bm, q] := fun n l => by
    show AObj.cells false [t0.ren _, .map bm, q0.ren _] = _
    rw [rt _ rfl, rq _ rfl]
  rw [e4] at h
  simp only [AObj.ren, ren_mapE, List.map_nil, pushL] at h
  exact rec_half2 h hb
theorem D6a {s : AS} {b : Nat} {bm : Nat} {ck : Nat} {bn : List Nat} {es : List (Int × Int)} {t : AV} {q : AV} {k : Int} {v : Int} (hb : s.get b = some (.cells false [t, .map bm, q])) (hm : s.get bm = some (.map (mapE .u64 .u64 es) bn ck)) (ht : Mp t) (hq : Ql q) (hx : getM es k = none) : Sound Try.prog (.call 9 [.ptr b 0, .int .u8 (Int.ofNat 6), .int .u64 k, .int .u64 v] s) ⟨.ret, [.tuple [.int .u8 (Int.ofNat 2), .int .u64 (Int.ofNat 0)]], s⟩ := by
  have hne : b ≠ bm := fun h => by rw [h, hm] at hb; cases hb
  obtain ⟨t0, c6, nt, rt⟩ := ht.small 6 (by decide)
  obtain ⟨q0, c7, nq, rq⟩ := hq.small 7 (by decide)
  have h := put2 (runX_sound mixed none_sound (d6a (.map (mapE .u64 .u64 es) bn ck) .dead 0 0 [] [] t0 q0 k v 0) ⟨lk_out rfl hx, ⟨del_out rfl hx, rfl⟩, trivial⟩) [] rfl rfl (and2 nt (and2 rfl (and2 nq rfl))) (names_mapE _ _) rfl (and2 (pN_8 nt) (and2 rfl (and2 (pN_8 nq) rfl))) (names_mapE _ _) (.inl rfl) trivial List.nodup_nil rfl (p4 b bm c6 c7) hne (s := s) (by show s.get b = some (.cells false [t0.ren _, .map bm, q0.ren _]); rw [rt _ rfl, rq _ rfl]; exact hb) (by show s.get bm = some (.map (renE _ _) bn ck); rw [ren_mapE]; exact hm)
  have e4 : ∀ n l, (AObj.cells false (rens (pR 8 l (p4 b bm c6 c7) n) [t0, .map 5, q0])) = .cells false [t, .map bm, q] := fun n l => by
    show AObj.cells false [t0.ren _, .map bm, q0.ren _] = _
    rw [rt _ rfl, rq _ rfl]
  rw [e4] at h
  simp only [AObj.ren, ren_mapE, List.map_nil, pushL] at h
  exact rec_same2 h hb hm
theorem D6n {s : AS} {b : Nat} {t : AV} {q : AV} {k : Int} {v : Int} (hb : s.get b = some (.cells false [t, .nilMap, q])) (ht : Mp t) (hq : Ql q) : Sound Try.prog (.call 9 [.ptr b 0, .int .u8 (Int.ofNat 6), .int .u64 k, .int .u64 v] s) ⟨.ret, [.tuple [.int .u8 (Int.ofNat 2), .int .u64 (Int.ofNat 0)]], s⟩ := by
  obtain ⟨t0, c6, nt, rt⟩ := ht.small 6 (by decide)
  obtain ⟨q0, c7, nq, rq⟩ := hq.small 7 (by decide)
  have h := put1 (runX_sound mixed none_sound (d6n .dead .dead 0 0 [] [] t0 q0 k v 0) trivial) [] rfl (and2 nt (and2 rfl (and2 nq rfl))) (and2 (pN_8 nt) (and2 rfl (and2 (pN_8 nq) rfl))) trivial List.nodup_nil rfl (p4 b 0 c6 c7) (s := s) (by show s.get b = some (.cells false [t0.ren _, .nilMap, q0.ren _]); rw [rt _ rfl, rq _ rfl]; exact hb)
  have e4 : ∀ n l, (AObj.cells false (rens (pR 8 l (p4 b 0 c6 c7) n) [t0, .nilMap, q0])) = .cells false [t, .nilMap, q] := fun n l => by
    show AObj.cells false [t0.ren _, .nilMap, q0.ren _] = _
    rw [rt _ rfl, rq _ rfl]
  rw [e4] at h
  exact rec_same1 h hb
theorem D7y {s : AS} {b : Nat} {bm : Nat} {ck : Nat} {bn : List Nat} {es : List (Int × Int)} {t : AV} {q : AV} {k : Int} {v : Int} {x : Int} (hb : s.get b = some (.cells false [t, .map bm, q])) (hm : s.get bm = some (.map (mapE .u64 .u64 es) bn ck)) (ht : Mp t) (hq : Ql q) (hx : getM es k = some x) : Sound Try.prog (.call 9 [.ptr b 0, .int .u8 (Int.ofNat 7), .int .u64 k, .int .u64 v] s) ⟨.ret, [.tuple [.int .u8 (Int.ofNat 1), .int .u64 x]], s⟩ := by
  have hne : b ≠ bm := fun h => by rw [h, hm] at hb; cases hb
  obtain ⟨t0, c6, nt, rt⟩ := ht.small 6 (by decide)
  obtain ⟨q0, c7, nq, rq⟩ := hq.small 7 (by decide)
  have h := put2 (runX_sound mixed none_sound (d7y (.map (mapE .u64 .u64 es) bn ck) .dead 0 0 [] [] t0 q0 k v x) ⟨lk_in rfl hx, trivial⟩) [] rfl rfl (and2 nt (and2 rfl (and2 nq rfl))) (names_mapE _ _) rfl (and2 (pN_8 nt) (and2 rfl (and2 (pN_8 nq) rfl))) (names_mapE _ _) (.inl rfl) trivial List.nodup_nil rfl (p4 b bm c6 c7) hne (s := s) (by show s.get b = some (.cells false [t0.ren _, .map bm, q0.ren _]); rw [rt _ rfl, rq _ rfl]; exact hb) (by show s.get bm = some (.map (renE _ _) bn ck); rw [ren_mapE]; exact hm)
  have e4 : ∀ n l, (AObj.cells false (rens (pR 8 l (p4 b bm c6 c7) n) [t0, .map 5, q0])) = .cells false [t, .map bm, q] := fun n l => by
    show AObj.cells false [t0.ren _, .map bm, q0.ren _] = _
    rw [rt _ rfl, rq _ rfl]
  rw [e4] at h
  simp only [AObj.ren, ren_mapE, List.map_nil, pushL] at h
  exact rec_same2 h hb hm
theorem D7a {s : AS} {b : Nat} {bm : Nat} {ck : Nat} {bn : List Nat} {es : List (Int × Int)} {t : AV} {q : AV} {k : Int} {v : Int} (hb : s.get b = some (.cells false [t, .map bm, q])) (hm : s.get bm = some (.map (mapE .u64 .u64 es) bn ck)) (ht : Mp t) (hq : Ql q) (hx : getM es k = none) : Sound Try.prog (.call 9 [.ptr b 0, .int .u8 (Int.ofNat 7), .int .u64 k, .int .u64 v] s) ⟨.ret, [.tuple [.int .u8 (Int.ofNat 2), .int .u64 0]], s⟩ := by
  have hne : b ≠ bm := fun h => by rw [h, hm] at hb; cases hb
  obtain ⟨t0, c6, nt, rt⟩ := ht.small 6 (by decide)
  obtain ⟨q0, c7, nq, rq⟩ := hq.small 7 (by decide)
  have h := put2 (runX_sound mixed none_sound (d7a (.map (mapE .u64 .u64 es) bn ck) .dead 0 0 [] [] t0 q0 k v 0) ⟨lk_out rfl hx, trivial⟩) [] rfl rfl (and2 nt (and2 rfl (and2 nq rfl))) (names_mapE _ _) rfl (and2 (pN_8 nt) (and2 rfl (and2 (pN_8 nq) rfl))) (names_mapE _ _) (.inl rfl) trivial List.nodup_nil rfl (p4 b bm c6 c7) hne (s := s) (by show s.get b = some (.cells false [t0.ren _, .map bm, q0.ren _]); rw [rt _ rfl, rq _ rfl]; exact hb) (by show s.get bm = some (.map (renE _ _) bn ck); rw [ren_mapE]; exact hm)
  have e4 : ∀ n l, (AObj.cells false (rens (pR 8 l (p4 b bm c6 c7) n) [t0, .map 5, q0])) = .cells false [t, .map bm, q] := fun n l => by
    show AObj.cells false [t0.ren _, .map bm, q0.ren _] = _
    rw [rt _ rfl, rq _ rfl]
  rw [e4] at h
  simp only [AObj.ren, ren_mapE, List.map_nil, pushL] at h
  exact rec_same2 h hb hm
theorem D7n {s : AS} {b : Nat} {t : AV} {q : AV} {k : Int} {v : Int} (hb : s.get b = some (.cells false [t, .nilMap, q])) (ht : Mp t) (hq : Ql q) : Sound Try.prog (.call 9 [.ptr b 0, .int .u8 (Int.ofNat 7), .int .u64 k, .int .u64 v] s) ⟨.ret, [.tuple [.int .u8 (Int.ofNat 2), .int .u64 (Int.ofNat 0)]], s⟩ := by
  obtain ⟨t0, c6, nt, rt⟩ := ht.small 6 (by decide)
  obtain ⟨q0, c7, nq, rq⟩ := hq.small 7 (by decide)
  have h := put1 (runX_sound mixed none_sound (d7n .dead .dead 0 0 [] [] t0 q0 k v 0) trivial) [] rfl (and2 nt (and2 rfl (and2 nq rfl))) (and2 (pN_8 nt) (and2 rfl (and2 (pN_8 nq) rfl))) trivial List.nodup_nil rfl (p4 b 0 c6 c7) (s := s) (by show s.get b = some (.cells false [t0.ren _, .nilMap, q0.ren _]); rw [rt _ rfl, rq _ rfl]; exact hb)
  have e4 : ∀ n l, (AObj.cells false (rens (pR 8 l (p4 b 0 c6 c7) n) [t0, .nilMap, q0])) = .cells false [t, .nilMap, q] := fun n l => by
    show AObj.cells false [t0.ren _, .nilMap, q0.ren _] = _
    rw [rt _ rfl, rq _ rfl]
  rw [e4] at h
  exact rec_same1 h hb
theorem D3n {s : AS} {b : Nat} {t : AV} {q : AV} {k : Int} {v : Int} (hb : s.get b = some (.cells false [t, q, .nilSlice])) (ht : Mp t) (hq : Mp q) : Sound Try.prog (.call 9 [.ptr b 0, .int .u8 (Int.ofNat 3), .int .u64 k, .int .u64 v] s) ⟨.ret, [.tuple [.int .u8 (Int.ofNat 1), .int .u64 (Int.ofNat 0)]], (s.set b (.cells false [t, q, .osl s.nx 0 1 1])).push (.cells false [.int .u64 v])⟩ := by
  obtain ⟨t0, c6, nt, rt⟩ := ht.small 6 (by decide)
  obtain ⟨q0, c7, nq, rq⟩ := hq.small 7 (by decide)
  have h := put1 (runX_sound mixed none_sound (d3n .dead .dead 0 0 [] [] t0 q0 k v 0) trivial) [(16, .cells false [.int .u64 v])] rfl (and2 nt (and2 nq (and2 rfl rfl))) (and2 (pN_8 nt) (and2 (pN_8 nq) (and2 rfl rfl))) ⟨⟨show 8 ≤ 16 by decide, rfl, rfl, rfl⟩, trivial⟩ (show [16].Nodup by decide) rfl (p4 b 0 c6 c7) (s := s) (by show s.get b = some (.cells false [t0.ren _, q0.ren _, .nilSlice]); rw [rt _ rfl, rq _ rfl]; exact hb)
  have e4 : (AObj.cells false (rens (pR 8 [16] (p4 b 0 c6 c7) s.nx) [t0, q0, .osl 16 0 1 1])) = .cells false [t, q, .osl s.nx 0 1 1] := by
    show AObj.cells false [t0.ren _, q0.ren _, .osl (s.nx + 0) 0 1 1] = _
    rw [rt _ rfl, rq _ rfl, Nat.add_zero]
  simp only [List.map_cons, List.map_nil] at h
  rw [e4] at h
  exact h
theorem D3s {s : AS} {b : Nat} {bm : Nat} {Q : List Int} {o : Nat} {n : Nat} {t : AV} {q : AV} {k : Int} {v : Int} (hb : s.get b = some (.cells false [t, q, .osl bm o n 1])) (hm : s.get bm = some (.cells false (uc Q))) (ht : Mp t) (hq : Mp q) (hne : b ≠ bm) (ho : o + n = Q.length) (hk : n < 16777216) : Sound Try.prog (.call 9 [.ptr b 0, .int .u8 (Int.ofNat 3), .int .u64 k, .int .u64 v] s) ⟨.ret, [.tuple [.int .u8 (Int.ofNat 1), .int .u64 (Int.ofNat 0)]], ((s.set b (.cells false [t, q, .osl s.nx 0 (n + 1) 1])).set bm .dead).push (.cells false (uc (Q.drop o ++ [v])))⟩ := by
  obtain ⟨t0, c6, nt, rt⟩ := ht.small 6 (by decide)
  obtain ⟨q0, c7, nq, rq⟩ := hq.small 7 (by decide)
  have h := put2 (runX_sound mixed none_sound (d3s .dead .dead o n (uc Q) (uc (Q.drop o ++ [v])) t0 q0 k v 0) ⟨app_off rfl ho rfl hk, trivial⟩) [(16, .cells false (uc (Q.drop o ++ [v])))] rfl rfl (and2 nt (and2 nq (and2 rfl rfl))) (names_uc _ _) rfl (and2 (pN_8 nt) (and2 (pN_8 nq) (and2 rfl rfl))) rfl (.inr rfl) ⟨⟨show 8 ≤ 16 by decide, rfl, rfl, names_uc _ _⟩, trivial⟩ (show [16].Nodup by decide) rfl (p4 b bm c6 c7) hne (s := s) (by show s.get b = some (.cells false [t0.ren _, q0.ren _, .osl bm o n 1]); rw [rt _ rfl, rq _ rfl]; exact hb) (by show s.get bm = some (.cells false (rens _ _)); rw [rens_uc]; exact hm)
  have e4 : (AObj.cells false (rens (pR 8 [16] (p4 b bm c6 c7) s.nx) [t0, q0, .osl 16 0 (n + 1) 1])) = .cells false [t, q, .osl s.nx 0 (n + 1) 1] := by
    show AObj.cells false [t0.ren _, q0.ren _, .osl (s.nx + 0) 0 (n + 1) 1] = _
    rw [rt _ rfl, rq _ rfl, Nat.add_zero]
  simp only [List.map_cons, List.map_nil] at h
  rw [e4] at h
  simp only [AObj.ren, rens_uc] at h
  exact h
theorem D4n {s : AS} {b : Nat} {t : AV} {q : AV} {k : Int} {v : Int} (hb : s.get b = some (.cells false [t, q, .nilSlice])) (ht : Mp t) (hq : Mp q) : Sound Try.prog (.call 9 [.ptr b 0, .int .u8 (Int.ofNat 4), .int .u64 k, .int .u64 v] s) ⟨.ret, [.tuple [.int .u8 (Int.ofNat 2), .int .u64 (Int.ofNat 0)]], s⟩ := by
  obtain ⟨t0, c6, nt, rt⟩ := ht.small 6 (by decide)
  obtain ⟨q0, c7, nq, rq⟩ := hq.small 7 (by decide)
  have h := put1 (runX_sound mixed none_sound (d4n .dead .dead 0 0 [] [] t0 q0 k v 0) trivial) [] rfl (and2 nt (and2 nq (and2 rfl rfl))) (and2 (pN_8 nt) (and2 (pN_8 nq) (and2 rfl rfl))) trivial List.nodup_nil rfl (p4 b 0 c6 c7) (s := s) (by show s.get b = some (.cells false [t0.ren _, q0.ren _, .nilSlice]); rw [rt _ rfl, rq _ rfl]; exact hb)
  have e4 : ∀ n l, (AObj.cells false (rens (pR 8 l (p4 b 0 c6 c7) n) [t0, q0, .nilSlice])) = .cells false [t, q, .nilSlice] := fun n l => by
    show AObj.cells false [t0.ren _, q0.ren _, .nilSlice] = _
    rw [rt _ rfl, rq _ rfl]
  rw [e4] at h
  exact rec_same1 h hb
theorem D4e {s : AS} {b : Nat} {bm : Nat} {Q : List Int} {o : Nat} {t : AV} {q : AV} {k : Int} {v : Int} (hb : s.get b = some (.cells false [t, q, .osl bm o 0 1])) (hm : s.get bm = some (.cells false (uc Q))) (ht : Mp t) (hq : Mp q) (hne : b ≠ bm) : Sound Try.prog (.call 9 [.ptr b 0, .int .u8 (Int.ofNat 4), .int .u64 k, .int .u64 v] s) ⟨.ret, [.tuple [.int .u8 (Int.ofNat 2), .int .u64 (Int.ofNat 0)]], s⟩ := by
  obtain ⟨t0, c6, nt, rt⟩ := ht.small 6 (by decide)
  obtain ⟨q0, c7, nq, rq⟩ := hq.small 7 (by decide)
  have h := put2 (runX_sound mixed none_sound (d4e .dead .dead o 0 (uc Q) [] t0 q0 k v 0) trivial) [] rfl rfl (and2 nt (and2 nq (and2 rfl rfl))) (names_uc _ _) rfl (and2 (pN_8 nt) (and2 (pN_8 nq) (and2 rfl rfl))) (names_uc _ _) (.inl rfl) trivial List.nodup_nil rfl (p4 b bm c6 c7) hne (s := s) (by show s.get b = some (.cells false [t0.ren _, q0.ren _, .osl bm o 0 1]); rw [rt _ rfl, rq _ rfl]; exact hb) (by show s.get bm = some (.cells false (rens _ _)); rw [rens_uc]; exact hm)
  have e4 : ∀ n l, (AObj.cells false (rens (pR 8 l (p4 b bm c6 c7) n) [t0, q0, .osl 5 o 0 1])) = .cells false [t, q, .osl bm o 0 1] := fun n l => by
    show AObj.cells false [t0.ren _, q0.ren _, .osl bm o 0 1] = _
    rw [rt _ rfl, rq _ rfl]
  rw [e4] at h
  simp only [AObj.ren, rens_uc, List.map_nil, pushL] at h
  exact rec_same2 h hb hm
theorem D4s {s : AS} {b : Nat} {bm : Nat} {Q : List Int} {o : Nat} {n : Nat} {t : AV} {q : AV} {k : Int} {v : Int} {x : Int} (hb : s.get b = some (.cells false [t, q, .osl bm o n 1])) (hm : s.get bm = some (.cells false (uc Q))) (ht : Mp t) (hq : Mp q) (hne : b ≠ bm) (hn : n ≠ 0) (hx : Q[o]? = some x) : Sound Try.prog (.call 9 [.ptr b 0, .int .u8 (Int.ofNat 4), .int .u64 k, .int .u64 v] s) ⟨.ret, [.tuple [.int .u8 (Int.ofNat 1), .int .u64 x]], s.set b (.cells false [t, q, .osl bm (o + 1) (n - 1) 1])⟩ := by
  obtain ⟨t0, c6, nt, rt⟩ := ht.small 6 (by decide)
  obtain ⟨q0, c7, nq, rq⟩ := hq.small 7 (by decide)
  have h := put2 (runX_sound mixed none_sound (d4s .dead .dead o n (uc Q) [] t0 q0 k v x) ⟨q_len0 hn, q_idx0 hn, q_ld hx, q_sli hn, trivial⟩) [] rfl rfl (and2 nt (and2 nq (and2 rfl rfl))) (names_uc _ _) rfl (and2 (pN_8 nt) (and2 (pN_8 nq) (and2 rfl rfl))) (names_uc _ _) (.inl rfl) trivial List.nodup_nil rfl (p4 b bm c6 c7) hne (s := s) (by show s.get b = some (.cells false [t0.ren _, q0.ren _, .osl bm o n 1]); rw [rt _ rfl, rq _ rfl]; exact hb) (by show s.get bm = some (.cells false (rens _ _)); rw [rens_uc]; exact hm)
  have e4 : ∀ m l, (AObj.cells false (rens (pR 8 l (p4 b bm c6 c7) m) [t0, q0, .osl 5 (o + 1) (n - 1) 1])) = .cells false [t, q, .osl bm (o + 1) (n - 1) 1] := fun m l => by
    show AObj.cells false [t0.ren _, q0.ren _, .osl bm (o + 1) (n - 1) 1] = _
    rw [rt _ rfl, rq _ rfl]
  rw [e4] at h
  simp only [AObj.ren, rens_uc, List.map_nil, pushL] at h
  exact rec_first2 h hm hne
end Go.Proofs.Ythooafgfpnedhaa.specsJudge
