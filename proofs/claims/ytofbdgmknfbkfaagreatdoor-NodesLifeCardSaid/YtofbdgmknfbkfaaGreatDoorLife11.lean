/- The sweep, whole. Conditions: those that each theorem names, and no others. -/
import Derived.Test.YtofbdgmknfbkfaaGreatDoorLife10
namespace Go.Proofs.YtofbdgmknfbkfaaGreatDoor.nodesLife
open Go Go.Mini
/-! ### List.Sweep, wherever it lies: told -/
section
variable {L : List Ent} {vs : List Bool} {M : PM} {X : List (Nat × AObj)}
theorem lsweep (hX : XOk X) (hX12 : ∀ x ∈ X, x.2.names (fun c => !Nat.beq c 12) = true) (hl : L.length < 1000) (hv : vs.length = L.length) {O : AObj} (hO : HadAt O L) (hz : (L.map Ent.z).Nodup) :
    ∀ s π, At Tryz.prog (swB L vs M O [] [] X) GF s π → ∃ O' s' π', HadAt O' (pick (fun k => !selV vs k) 0 L) ∧ Sound Tryz.prog (.call 128 [.ptr (π 11) 0, .slice (π 23) 0 L.length L.length] s) ⟨.ret, [cV (π' 20) (pick (selV vs) 0 L)], s'⟩ ∧
      At Tryz.prog (memP M ++ (liB (pick (fun k => !selV vs k) 0 L) O' ++ (oB 20 (pick (selV vs) 0 L) ++ X))) GF s' π' ∧ Moved 24 (swB L vs M O [] [] X) (memP M ++ (liB (pick (fun k => !selV vs k) 0 L) O' ++ (oB 20 (pick (selV vs) 0 L) ++ X))) π π' kS s s' := by
  intro s π A
  have A0 : At Tryz.prog (swB L vs M O [] [] X) GF (ent s) π := A.same rfl rfl
  obtain ⟨l, ix, nn, rfl, hn, hm⟩ := hO
  obtain ⟨l', ix', s3, π3, j', k1, k2, k3, k4⟩ := ls_all hX hl hv L.length 0 [] [] l ix nn (ent s) π (jL0 (π 11)) (by omega) (Nat.zero_le _) ⟨hn, hm⟩ hz (Nat.le_refl _) (Nat.le_refl _) A0
  rw [List.drop_zero, List.nil_append, List.nil_append] at k2 k3 k4
  rw [List.drop_zero, List.nil_append] at k1
  generalize ho : pick (selV vs) 0 L = out at *
  generalize hlf : pick (fun k => !selV vs k) 0 L = left at *
  have nO := hadO_names (fun _ => false) l' ix' nn
  have p11 : π3 11 = π 11 := k4.low 11 (by decide) (by decide)
  have g11 := at_g A0 (b := 11) (o := liV (.osl 12 0 L.length 6) (.map 13)) (by simp [swB, base])
  have g11' := at_g k3 (b := 11) (o := liV (.osl 12 0 L.length 6) (.map 13)) (by simp [swB, base])
  have ldL : loadA Tryz.prog (ent s) 138 (.ptr (π 11) 0) = some (.osl (π 12) 0 L.length 6) := ld_cell aL g11 rfl
  obtain ⟨s4, e1, e2, e3⟩ := st_one (P := Tryz.prog) (t := 138) (o := 0) (v := oV (π3 21) left) zL oV_cells.1 oV_cells.2 g11' (show 0 < 2 by decide)
  have eL : AObj.cells false ((rens π3 [.osl 12 0 L.length 6, .map 13]).set 0 (oV (π3 21) left)) = (liV (oV 21 left) (.map 13)).ren π3 := by
    show AObj.cells false [oV (π3 21) left, .map (π3 13)] = AObj.cells false [(oV 21 left).ren π3, .map (π3 13)]
    rw [oV_ren]
  rw [eL] at e2
  rw [swE_of] at k3
  obtain ⟨A4, M4⟩ := At.put (nx0 := 24) (b := 11) (o' := liV (oV 21 left) (.map 13)) (s2 := s4) k3 (fun hmm => by
    obtain ⟨x, hx, e'⟩ := List.mem_map.1 hmm
    rcases List.mem_append.1 hx with hx | hx
    · simp only [memP, List.mem_cons, List.not_mem_nil, or_false] at hx
      rcases hx with rfl | rfl <;> cases e'
    · rcases List.mem_append.1 hx with hx | hx
      · simp only [List.mem_cons, List.not_mem_nil, or_false] at hx
        rcases hx with rfl | rfl <;> cases e'
      · rcases List.mem_cons.1 hx with rfl | hx
        · cases e'
        · rcases List.mem_append.1 hx with hx | hx
          · have := (oB_mem hx).1
            omega
          · rcases List.mem_append.1 hx with hx | hx
            · have := (oB_mem hx).1
              omega
            · have := (hX x hx).2.2
              rw [e'] at this
              simp at this) e2 e3
  have A5 : At Tryz.prog (swE L vs M (hadO l' ix' nn) out left X) GF s4 π3 := A4
  obtain ⟨A6, km⟩ := swE_ren hX hX12 nO A5
  have cl : Sound Tryz.prog (.call 132 [oV (π3 20) out] s4) ⟨.ret, [cV (π3 20) out], s4⟩ := clip_at fun hne => by
    refine A5.lt (b := 20) (List.mem_map.2 ⟨(20, .cells false (entsC out)), ?_, rfl⟩)
    cases out with
    | nil => exact absurd rfl hne
    | cons x y => simp [swE, oB]
  rw [p11] at e1
  obtain ⟨ts', hj, hC⟩ := code_at (j := 4) (lsw_run (ent s) s3 s4 (π 11) (π 12) (π 23) L.length (oV (π3 20) out) (oV (π3 21) left) (cV (π3 20) out) j') ⟨ldL, k2, ⟨e1, rfl⟩, cl, trivial⟩
  obtain ⟨s5, f1, f2, hF⟩ := lsw_call (s := s) hj hC (.inr rfl)
  have lows : ∀ c, c < 24 → kS c = c → π3 (m12 c) = π c := fun c hc hk => by
    have h3 : c ≠ 12 ∧ c ≠ 20 ∧ c ≠ 21 := by
      unfold kS at hk
      split at hk <;> omega
    have : m12 c = c := if_neg h3.1
    rw [this]
    exact k4.low c hc (if_neg (by omega))
  have M5 := k4.comp (M4.weak (κ' := kW) fun _ _ => rfl) (κ3 := kW) (fun c _ h => ⟨h, h⟩)
  refine ⟨hadO l' ix' nn, s5, fun c => π3 (m12 c), ⟨l', ix', nn, rfl, k1.1, k1.2⟩, hF, A6.same f1 f2, Moved.same ⟨fun b hb => ?_, lows, M5.rest, M5.nx⟩ rfl rfl f1 f2⟩
  exact M5.old (m12 b) (km b hb)
end
end Go.Proofs.YtofbdgmknfbkfaaGreatDoor.nodesLife
namespace Go.Proofs.YtofbdgmknfbkfaaGreatDoor.nodesLife
open Go Go.Mini
/-! ### the sweep, run around its loop -/
noncomputable def mkS (n : Nat) (s : AS) : Option Out := opA Tryz.prog [i64 (Int.ofNat n)] s (.makeSlice 246 (.tmp 0) (.tmp 0))
theorem byB : bytesA Tryz.prog 4 = some 1 := by kernel_rfl
theorem zzB : zeroA Tryz.prog 4 = some (.bool false) := by kernel_rfl
theorem repB : ∀ n, repeatL n [AV.bool false] = List.replicate n (.bool false)
  | 0 => rfl
  | n + 1 => by show AV.bool false :: repeatL n _ = _; rw [repB n]; rfl
def jS0 (p9 p10 p11 nb gb n m : Nat) (k : Nat) : AV := [undefA, undefA, undefA, undefA, undefA, undefA, undefA, .ptr p9 0, .ptr p9 0, .ptr p9 0, .ptr p10 0, .ptr p11 0, .slice nb 0 n n, .ptr p9 0, .ptr p9 0, .ptr p9 4, i64 (Int.ofNat m), .slice nb 0 n n, i64 (Int.ofNat n), i64 (Int.ofNat n), .slice gb 0 n n, .slice gb 0 n n].getD k undefA
def swD (s s1 s3 s4 s5 s6 : AS) (p9 p10 p11 nb n h m : Nat) (gv : AV) (jL : Nat → AV) : List Dec := [.val 116 0 3 (.ptr p10 0), .call 116 0 4 (.ptr p11 0) (fun _ => s), .call 116 0 5 (.slice nb 0 n n) (fun _ => s1), .val 116 1 3 (i64 (Int.ofNat m)), .val 116 1 6 (i64 (Int.ofNat n)), .eff 116 1 7 (.slice s1.nx 0 n n) (fun _ => s1.push (.cells false (List.replicate n (.bool false)))), .loop 116 (fun _ _ => ⟨.exit 0, TS p9 h nb s1.nx n n jL, s3⟩), .val 116 7 4 (.ptr p10 0), .call 116 7 5 (.ptr p11 0) (fun _ => s3), .call 116 7 7 gv (fun _ => s4), .eff 116 7 10 undefA (fun _ => s5), .call 116 8 1 (.tuple []) (fun _ => s6)]
theorem sw_run (s s1 s3 s4 s5 s6 : AS) (p9 p10 p11 nb n h m : Nat) (gv : AV) (jL : Nat → AV) : (runX Tryz.prog none_ 90 116 (.code (cOf 116) ([.ptr p9 0, u64 h] ++ List.replicate 54 undefA) s) (swD s s1 s3 s4 s5 s6 p9 p10 p11 nb n h m gv jL)).map (fun x => (x.1.e, x.1.s, x.2.2)) =
  some (.normal, s6, [.ld 40 s (.ptr p9 0) (.ptr p10 0), .snd (.call 75 [.ptr p10 0] s) ⟨.ret, [.ptr p11 0], s⟩, .snd (.call 126 [.ptr p11 0] s) ⟨.ret, [.slice nb 0 n n], s1⟩, .ld 3 s1 (.ptr p9 4) (i64 (Int.ofNat m)), .val (some (i64 (if Int.ofNat n < Int.ofNat m then Int.ofNat n else Int.ofNat m))) (i64 (Int.ofNat n)), .out (mkS n s1) (.slice s1.nx 0 n n) (s1.push (.cells false (List.replicate n (.bool false)))),
    .snd (.code (.loop cL1) (TS p9 h nb s1.nx n 0 (jS0 p9 p10 p11 nb s1.nx n m)) (s1.push (.cells false (List.replicate n (.bool false))))) ⟨.exit 0, TS p9 h nb s1.nx n n jL, s3⟩, .ld 40 s3 (.ptr p9 0) (.ptr p10 0), .snd (.call 75 [.ptr p10 0] s3) ⟨.ret, [.ptr p11 0], s3⟩, .snd (.call 128 [.ptr p11 0, .slice s1.nx 0 n n] s3) ⟨.ret, [gv], s4⟩, .sto s4 138 (.ptr p9 7) gv undefA s5, .snd (.call 120 [.ptr p9 0] s5) ⟨.ret, [.tuple []], s6⟩]) := by kernel_rfl
theorem mkS_ok {n : Nat} {s : AS} (h : n < 16777216) : mkS n s = some (.val (.slice s.nx 0 n n) (s.push (.cells false (List.replicate n (.bool false))))) := by
  have d1 : decide ((0 : Int) ≤ Int.ofNat n) = true := decide_eq_true (Int.natCast_nonneg n)
  have d2 : decide (Int.ofNat n ≤ Int.ofNat n) = true := decide_eq_true (Int.le_refl _)
  have d3 : decide (Int.ofNat n ≤ 16777216) = true := decide_eq_true (by simp only [Int.ofNat_eq_natCast]; omega)
  have ev : evA Tryz.prog [i64 (Int.ofNat n)] (.tmp 0) = some (.int .i64 (Int.ofNat n)) := rfl
  have hA : allocA Tryz.prog [i64 (Int.ofNat n)] s.nx (.makeSlice 246 (.tmp 0) (.tmp 0)) = some (.slice s.nx 0 n n, .cells false (List.replicate n (.bool false))) := by
    simp only [allocA, uB, ev, zB, byB, zzB, d1, d2, d3]
    rw [if_pos (by decide)]
    show some (AV.slice s.nx 0 n n, AObj.cells false (repeatL n [AV.bool false])) = _
    rw [repB]
  simp only [mkS, opA, kindOf, hA]
end Go.Proofs.YtofbdgmknfbkfaaGreatDoor.nodesLife
namespace Go.Proofs.YtofbdgmknfbkfaaGreatDoor.nodesLife
open Go Go.Mini
/-! ### a guard's list -/
theorem gl_run (s : AS) (a b : Nat) : (runX Tryz.prog none_ 60 75 (.call 75 [.ptr a 0] s) [.call 75 1 1 (.bool true) (fun _ => ent s), .val 75 3 3 (.ptr b 0)]).map (fun x => (x.1.e, x.1.ts, x.1.s, x.2.2)) = some (.ret, [.ptr b 0], leave s (ent s) (.ptr b 0), [.snd (.call 95 [.ptr a 0] (ent s)) ⟨.ret, [.bool true], ent s⟩, .ld 131 (ent s) (.ptr a 8) (.ptr b 0)]) := by kernel_rfl
theorem th_run (s : AS) (a : Nat) : (runX Tryz.prog none_ 60 95 (.call 95 [.ptr a 0] s) [.val 95 1 6 (.bool true)]).map (fun x => (x.1.e, x.1.ts, x.1.s, x.2.2)) = some (.ret, [.bool true], leave s (ent s) (.bool true), [.ld 4 (ent s) (.ptr a 6) (.bool true)]) := by kernel_rfl
theorem aLi : isAggA Tryz.prog 131 = some false := by kernel_rfl
theorem aGu : isAggA Tryz.prog 40 = some false := by kernel_rfl
theorem gl_at {bs : List (Nat × AObj)} {s : AS} {π : Nat → Nat} {k : Nat} {o : AObj} (A : At Tryz.prog bs GF s π) (h : (10, gdO k) ∈ bs) (h2 : (11, o) ∈ bs) : Sound Tryz.prog (.call 75 [.ptr (π 10) 0] s) ⟨.ret, [.ptr (π 11) 0], s⟩ := by
  have A1 : At Tryz.prog bs GF (ent s) π := A.same rfl rfl
  have A2 : At Tryz.prog bs GF (ent (ent s)) π := A.same rfl rfl
  have lt := A.lt (b := 11) (List.mem_map.2 ⟨_, h2, rfl⟩)
  refine rd_of (gl_run s (π 10) (π 11)) ?_ ⟨rd_of (th_run (ent s) (π 10)) rfl ⟨at_ld A2 (i := 6) (v := .bool true) h rfl aB, trivial⟩, at_ld A1 (i := 8) (v := .ptr 11 0) h rfl aLi, trivial⟩
  show Nat.ble (s.nx - 1 + 1) (π 11) = false
  cases hb : Nat.ble (s.nx - 1 + 1) (π 11) with
  | false => rfl
  | true =>
    have := Nat.le_of_ble_eq_true hb
    omega
end Go.Proofs.YtofbdgmknfbkfaaGreatDoor.nodesLife
namespace Go.Mini
theorem Moved.keys {nx0 : Nat} {bs bs' bs2 bs2' : List (Nat × AObj)} {π π' κ : Nat → Nat} {s s' : AS} (h : Moved nx0 bs bs' π π' κ s s') (h1 : ∀ x ∈ bs2', ∃ y ∈ bs', y.1 = x.1) (h2 : ∀ x ∈ bs, ∃ y ∈ bs2, y.1 = x.1) : Moved nx0 bs2 bs2' π π' κ s s' := by
  have k2 : ∀ d ∈ bs.map (·.1), d ∈ bs2.map (·.1) := fun d hd => by
    obtain ⟨x, hx, rfl⟩ := List.mem_map.1 hd
    obtain ⟨y, hy, e⟩ := h2 x hx
    exact List.mem_map.2 ⟨y, hy, e⟩
  refine ⟨fun b hb => ?_, h.low, fun c hc hd => h.rest c hc fun d hd' => hd d (k2 d hd'), h.nx⟩
  obtain ⟨x, hx, rfl⟩ := List.mem_map.1 hb
  obtain ⟨y, hy, e⟩ := h1 x hx
  rcases h.old y.1 (List.mem_map.2 ⟨y, hy, rfl⟩) with ⟨d, hd, e2⟩ | e2
  · exact .inl ⟨d, k2 d hd, by rw [← e]; exact e2⟩
  · exact .inr (by rw [← e]; exact e2)
end Go.Mini
namespace Go.Proofs.YtofbdgmknfbkfaaGreatDoor.nodesLife
open Go Go.Mini
/-! ### the sweep, as far as its rows of bools -/
structure SwP where
  k : Nat
  thr : Nat
  most : Nat
  y : Nat
  h : Nat
  z : Int
  g : Nat
  b : Nat
  e : Nat
  r : Nat
def S9 (p : SwP) (n : Nat) : AObj := scO p.most nLd p.y n sN .nilSlice .nilSlice
def XP (p : SwP) : List (Nat × AObj) := [(15, ldO 1 p.h), (18, goO p.thr p.most (.ptr 9 0)), (19, rtO 0 p.z p.g p.b p.e p.r)]
def li3 (L : List Ent) (O : AObj) : List (Nat × AObj) := [(11, liV (.osl 12 0 L.length 6) (.map 13)), (12, .cells false (entsC L)), (13, O)]
/-- What lies there when a sweep begins. -/
def sw0 (p : SwP) (L : List Ent) (M : PM) (O : AObj) : List (Nat × AObj) := memP M ++ ([(9, S9 p L.length), (14, .cells false Z40), (10, gdO p.k)] ++ (li3 L O ++ XP p))
theorem all_at {p : SwP} {L : List Ent} {M : PM} {O : AObj} (hL : L ≠ []) (hl : L.length < 1000) (hO : O.names (fun _ => false) = true) : StepF Tryz.prog GF 24 126 [.ptr 11 0] (.slice 22 0 L.length L.length) (sw0 p L M O) (sw0 p L M O ++ [(22, .cells false (entsC L))]) (kl [(22, 25)]) := by
  have hf := StepF.frame (all_step (M := M) hL hl) ([(9, S9 p L.length), (14, .cells false Z40), (10, gdO p.k), (13, O)] ++ XP p) (fun x hx => ⟨by have := (gz x hx).1; omega, by
    have := (gz x hx).1
    show (bif Nat.beq 22 x.1 then 25 else x.1) = x.1
    cases e : Nat.beq 22 x.1 with
    | false => rfl
    | true => have := Nat.eq_of_beq_eq_true e; omega⟩) (eachX_all fun x hx => by
    simp only [XP, List.mem_append, List.mem_cons, List.not_mem_nil, or_false] at hx
    rcases hx with (rfl | rfl | rfl | rfl) | rfl | rfl | rfl
    · exact ⟨show 9 < 24 by decide, rfl, rfl, by simp [memP]⟩
    · exact ⟨show 14 < 24 by decide, rfl, rfl, by simp [memP]⟩
    · exact ⟨show 10 < 24 by decide, rfl, rfl, by simp [memP]⟩
    · exact ⟨show 13 < 24 by decide, rfl, raw_any hO _, by simp [memP]⟩
    · exact ⟨show 15 < 24 by decide, rfl, rfl, by simp [memP]⟩
    · exact ⟨show 18 < 24 by decide, rfl, rfl, by simp [memP]⟩
    · exact ⟨show 19 < 24 by decide, rfl, rfl, by simp [memP]⟩)
  exact hf.use (fun x hx => by
    simp only [sw0, li3, List.mem_append, List.mem_cons, List.not_mem_nil, or_false] at hx ⊢
    grind) (fun x hx => by
    simp only [sw0, li3, List.mem_append, List.mem_cons, List.not_mem_nil, or_false] at hx ⊢
    grind)
def k2x (c : Nat) : Nat := if c = 22 ∨ c = 23 then c + 1 else c
/-- The first half of it. -/
theorem sw_half {p : SwP} {L : List Ent} {M : PM} {O : AObj} (hL : L ≠ []) (hl : L.length < 1000) (hO : O.names (fun _ => false) = true) (hh : p.h < 18446744073709551616) (hE : ∀ e ∈ L, e.e < 18446744073709551616) {s : AS} {π : Nat → Nat} (A : At Tryz.prog (sw0 p L M O) GF s π) (jj : Nat → Nat → Nat → AV) :
    ∃ (s1 : AS) (π1 : Nat → Nat) (vs : List Bool) (s3 : AS) (π3 : Nat → Nat) (j3 : Nat → AV), vs.length = L.length ∧ Sound Tryz.prog (.call 126 [.ptr (π 11) 0] s) ⟨.ret, [.slice (π1 22) 0 L.length L.length], s1⟩ ∧ loadA Tryz.prog s1 3 (.ptr (π 9) 4) = some (i64 (Int.ofNat L.length)) ∧
      Sound Tryz.prog (.code (.loop cL1) (TS (π 9) p.h (π1 22) s1.nx L.length 0 (jj (π1 22) s1.nx)) (s1.push (.cells false (List.replicate L.length (.bool false))))) ⟨.exit 0, TS (π 9) p.h (π1 22) s1.nx L.length L.length j3, s3⟩ ∧ π3 23 = s1.nx ∧ π1 9 = π 9 ∧
      At Tryz.prog (sw0 p L M O ++ [(23, .cells false (bools vs))]) GF s3 π3 ∧ Moved 24 (sw0 p L M O) (sw0 p L M O ++ [(23, .cells false (bools vs))]) π π3 k2x s s3 := by
  obtain ⟨s1, π1, hS, A1, M1⟩ := all_at hL hl hO s π A
  have p9 : π1 9 = π 9 := M1.low 9 (by decide) rfl
  have nm : ∀ x ∈ sw0 p L M O ++ [(22, AObj.cells false (entsC L))], x.1 ≠ 23 ∧ x.2.names (fun c => !Nat.beq c 23) = true := fun x hx => by
    simp only [sw0, memP, li3, XP, List.mem_append, List.mem_cons, List.not_mem_nil, or_false] at hx
    rcases hx with ((rfl | rfl) | (rfl | rfl | rfl) | (rfl | rfl | rfl) | rfl | rfl | rfl) | rfl
    · exact ⟨show 7 ≠ 23 by decide, rfl⟩
    · exact ⟨show 8 ≠ 23 by decide, mapO_names _ _⟩
    · exact ⟨show 9 ≠ 23 by decide, rfl⟩
    · exact ⟨show 14 ≠ 23 by decide, rfl⟩
    · exact ⟨show 10 ≠ 23 by decide, rfl⟩
    · exact ⟨show 11 ≠ 23 by decide, rfl⟩
    · exact ⟨show 12 ≠ 23 by decide, entsC_names _ _⟩
    · exact ⟨show 13 ≠ 23 by decide, raw_any hO _⟩
    · exact ⟨show 15 ≠ 23 by decide, rfl⟩
    · exact ⟨show 18 ≠ 23 by decide, rfl⟩
    · exact ⟨show 19 ≠ 23 by decide, rfl⟩
    · exact ⟨show 22 ≠ 23 by decide, entsC_names _ _⟩
  rw [← List.append_nil (sw0 p L M O ++ [(22, AObj.cells false (entsC L))])] at A1 M1
  obtain ⟨A2, M2⟩ := At.newB (nx0 := 24) (b := 23) (o := .cells false (List.replicate L.length (.bool false))) A1 (fun hm => by
    rw [List.append_nil] at hm
    obtain ⟨x, hx, e⟩ := List.mem_map.1 hm
    exact (nm x hx).1 e) (by rw [glN]; decide) (fun x hx => by have := (gz x hx).1; omega) (fun x hx => (nm x (by rw [List.append_nil] at hx; exact hx)).2) (by rw [show AObj.cells false (List.replicate L.length (AV.bool false)) = .cells false (bools (List.replicate L.length false)) by rw [bools_rep]]; exact bools_names _ _)
  have hX : eachX (fun b o => b < 24 ∧ o.names (fun c => Nat.blt c 24) = true ∧ b ∉ [7, 8, 9, 14, 22, 23]) ([(10, gdO p.k)] ++ (li3 L O ++ XP p)) := ⟨⟨show 10 < 24 by decide, rfl, show 10 ∉ [7, 8, 9, 14, 22, 23] by decide⟩, ⟨show 11 < 24 by decide, rfl, show 11 ∉ [7, 8, 9, 14, 22, 23] by decide⟩, ⟨show 12 < 24 by decide, entsC_names _ _, show 12 ∉ [7, 8, 9, 14, 22, 23] by decide⟩, ⟨show 13 < 24 by decide, raw_any hO _, show 13 ∉ [7, 8, 9, 14, 22, 23] by decide⟩, ⟨show 15 < 24 by decide, rfl, show 15 ∉ [7, 8, 9, 14, 22, 23] by decide⟩, ⟨show 18 < 24 by decide, rfl, show 18 ∉ [7, 8, 9, 14, 22, 23] by decide⟩, ⟨show 19 < 24 by decide, rfl, show 19 ∉ [7, 8, 9, 14, 22, 23] by decide⟩, trivial⟩
  have e2 : tunB π1 23 s1.nx 9 = π 9 ∧ tunB π1 23 s1.nx 22 = π1 22 ∧ tunB π1 23 s1.nx 23 = s1.nx := ⟨p9, rfl, rfl⟩
  obtain ⟨vs, s3, π3, j3, k1, k2, k3, k4⟩ := lp_all (most := p.most) (y := p.y) (m := L.length) (M := M) hh hE hl hX L.length 0 [] (s1.push (.cells false (List.replicate L.length (.bool false)))) (tunB π1 23 s1.nx) (jj (π1 22) s1.nx) (by omega) rfl (Nat.zero_le _) (A2.sub fun x hx => by
    simp only [lpB, sw0, S9, bools, List.map_nil, List.nil_append, Nat.sub_zero, List.mem_append, List.mem_cons, List.not_mem_nil, or_false] at hx ⊢
    grind)
  rw [e2.1, e2.2.1, e2.2.2] at k2
  have g9' := at_g A1 (b := 9) (o := S9 p L.length) (by simp [sw0])
  refine ⟨s1, π1, vs, s3, π3, j3, k1, hS, ?_, k2, ?_, p9, k3.sub fun x hx => ?_, ?_⟩
  · rw [← p9]
    exact ld_cell cI g9' rfl
  · have := k4.low 23 (by decide) rfl
    rw [this]
    rfl
  · simp only [lpB, sw0, S9, List.mem_append, List.mem_cons, List.not_mem_nil, or_false] at hx ⊢
    grind
  · have M12 := M1.comp M2 (κ3 := k2x) fun c _ h => by
      have h3 : c ≠ 22 ∧ c ≠ 23 := by
        unfold k2x at h
        split at h <;> omega
      refine ⟨?_, if_neg h3.2⟩
      show (bif Nat.beq 22 c then 25 else c) = c
      cases e : Nat.beq 22 c with
      | false => rfl
      | true => exact absurd (Nat.eq_of_beq_eq_true e).symm h3.1
    have k4' := k4.keys (bs2 := sw0 p L M O ++ [(22, .cells false (entsC L))] ++ (23, .cells false (List.replicate L.length (.bool false))) :: []) (bs2' := sw0 p L M O ++ [(23, .cells false (bools vs))]) (fun x hx => ⟨x, ?_, rfl⟩) (fun x hx => ⟨x, ?_, rfl⟩)
    · exact M12.comp k4' fun c _ h => ⟨h, rfl⟩
    · simp only [lpB, sw0, S9, List.mem_append, List.mem_cons, List.not_mem_nil, or_false] at hx ⊢
      grind
    · simp only [lpB, sw0, S9, bools, List.map_nil, List.nil_append, Nat.sub_zero, List.mem_append, List.mem_cons, List.not_mem_nil, or_false] at hx ⊢
      grind
end Go.Proofs.YtofbdgmknfbkfaaGreatDoor.nodesLife
namespace Go.Proofs.YtofbdgmknfbkfaaGreatDoor.nodesLife
open Go Go.Mini
/-! ### the sweep: told -/
theorem swp_call {s s' : AS} {a : Nat} {w : AV} {e : AExit} {ts' : List AV} (h : Sound Tryz.prog (.code (cOf 116) ([.ptr a 0, w] ++ List.replicate 54 undefA) (ent s)) ⟨e, ts', s'⟩) (he : e = .normal ∨ e = .ret) : ∃ s2 : AS, s2.h.bs = s'.h.bs ∧ s2.nx = s'.nx ∧ Sound Tryz.prog (.call 116 [.ptr a 0, w] s) ⟨.ret, [.tuple []], s2⟩ := by
  have := keepC2 (s := s) (f := 116) (fn := Tryz.f116) (c := cOf 116) (args := [.ptr a 0, w]) (vs := []) Tryz.func116 (by kernel_rfl) (by rw [show Tryz.f116.ntmps = 56 from by kernel_rfl]; exact h) he (by rw [show Tryz.f116.results.toList = [] from by kernel_rfl]; rfl)
  exact ⟨⟨⟨s'.h.bs, s'.h.len, none, olds s.nx s'.h.wr s.h.wr⟩, s'.nx⟩, rfl, rfl, this⟩
/-- The rest, behind a sweep. -/
def rst (p : SwP) (left : List Ent) (O : AObj) : List (Nat × AObj) := liB left O ++ [(14, .cells false Z40), (10, gdO p.k), (18, goO p.thr p.most (.ptr 9 0)), (19, rtO 0 p.z p.g p.b p.e p.r)]
/-- The scan, behind a sweep. -/
def aft (p : SwP) (n : Nat) (out : List Ent) : List (Nat × AObj) := match out with
  | [] => [(9, scO p.most .nilIface p.y n sN .nilSlice .nilSlice)]
  | e :: l => [(9, scO p.most nFr p.y n sN (.slice 20 6 l.length l.length) (.osl 21 0 1 3)), (15, frO (Int.ofNat e.z) hdrI 1 0), (16, hdO (Int.ofNat e.z) nfF 0 false 0), (17, moO p.most), (20, .cells false (entsC (e :: l))), (21, .cells false (refsC [e.ref]))]
def kF : Nat → Nat := kl [(21, 26), (15, 29), (16, 28), (17, 27)]
theorem rst_ext {p : SwP} {left : List Ent} {O : AObj} {κ : Nat → Nat} {bs : List (Nat × AObj)} (hO : O.names (fun _ => false) = true) (hκ : ∀ b ∈ [9, 10, 11, 12, 13, 14, 18, 19], κ b = b) (hb : ∀ b ∈ [10, 11, 12, 13, 14, 18, 19], b ∉ bs.map (·.1)) : eachX (fun b o => b < 24 ∧ κ b = b ∧ o.names (fun c => Nat.blt c 24 && Nat.beq (κ c) c) = true ∧ b ∉ bs.map (·.1)) (rst p left O) := by
  have k : ∀ b, b ∈ [9, 10, 11, 12, 13, 14, 18, 19] → (Nat.blt b 24 && Nat.beq (κ b) b) = true := fun b hb' => by
    rw [hκ b hb', Nat.beq_refl, Bool.and_true]
    simp only [List.mem_cons, List.not_mem_nil, or_false] at hb'
    rcases hb' with rfl | rfl | rfl | rfl | rfl | rfl | rfl | rfl <;> rfl
  refine eachX_all fun x hx => ?_
  rcases List.mem_append.1 hx with hx | hx
  · rcases liB_mem hx with rfl | ⟨rfl, _⟩ | rfl
    · refine ⟨show 11 < 24 by decide, hκ 11 (by simp), ?_, hb 11 (by simp)⟩
      cases left with
      | nil => show (true && ((Nat.blt 13 24 && Nat.beq (κ 13) 13) && true)) = true; rw [k 13 (by simp)]; rfl
      | cons e l => show ((Nat.blt 12 24 && Nat.beq (κ 12) 12) && ((Nat.blt 13 24 && Nat.beq (κ 13) 13) && true)) = true; rw [k 12 (by simp), k 13 (by simp)]; rfl
    · exact ⟨show 12 < 24 by decide, hκ 12 (by simp), entsC_names _ _, hb 12 (by simp)⟩
    · exact ⟨show 13 < 24 by decide, hκ 13 (by simp), raw_any hO _, hb 13 (by simp)⟩
  · simp only [List.mem_cons, List.not_mem_nil, or_false] at hx
    rcases hx with rfl | rfl | rfl | rfl
    · exact ⟨show 14 < 24 by decide, hκ 14 (by simp), rfl, hb 14 (by simp)⟩
    · refine ⟨show 10 < 24 by decide, hκ 10 (by simp), ?_, hb 10 (by simp)⟩
      show (true && (true && (true && (true && (true && (true && (true && (true && ((Nat.blt 11 24 && Nat.beq (κ 11) 11) && true))))))))) = true
      rw [k 11 (by simp)]
      rfl
    · refine ⟨show 18 < 24 by decide, hκ 18 (by simp), ?_, hb 18 (by simp)⟩
      show ((Nat.blt 10 24 && Nat.beq (κ 10) 10) && (true && (true && (true && ((Nat.blt 19 24 && Nat.beq (κ 19) 19) && ((Nat.blt 9 24 && Nat.beq (κ 9) 9) && true)))))) = true
      rw [k 10 (by simp), k 19 (by simp), k 9 (by simp)]
      rfl
    · refine ⟨show 19 < 24 by decide, hκ 19 (by simp), ?_, hb 19 (by simp)⟩
      show ((Nat.blt 10 24 && Nat.beq (κ 10) 10) && (true && (true && (true && (true && (true && (true && (true && true)))))))) = true
      rw [k 10 (by simp)]
      rfl
/-- The first Free, or none. -/
theorem free_at {p : SwP} {n : Nat} {M : PM} {out left : List Ent} {O : AObj} (hO : O.names (fun _ => false) = true) (hz : ∀ e ∈ out, e.z < 16) : StepF Tryz.prog GF 24 120 aN (.tuple []) (memP M ++ ((9, scO p.most nLd p.y n sN (cV 20 out) .nilSlice) :: (oB 20 out ++ rst p left O))) (memP M ++ (aft p n out ++ rst p left O)) kF := by
  have kz : ∀ x ∈ GF, x.1 < 24 ∧ kF x.1 = x.1 := fun x hx => by
    have := (gz x hx).1
    have e : x.1 = 0 ∨ x.1 = 1 := by omega
    rcases e with e | e <;> rw [e] <;> exact ⟨by decide, rfl⟩
  have hκ : ∀ b ∈ [9, 10, 11, 12, 13, 14, 18, 19], kF b = b := by decide
  cases out with
  | nil =>
    have h0 : SF 120 aN (.tuple []) M M [(9, scO p.most nLd p.y n sN .nilSlice .nilSlice)] [(9, scO p.most .nilIface p.y n sN .nilSlice .nilSlice)] kF := by
      intro s π A
      obtain ⟨s', π', a1, a2, a3⟩ := (stp (k_f0 M (mapO M.ms) p.most p.y n) trivial rfl : SF 120 aN (.tuple []) M M [(9, scO p.most nLd p.y n sN .nilSlice .nilSlice)] [(9, scO p.most .nilIface p.y n sN .nilSlice .nilSlice)] (kl [])) s π A
      exact ⟨s', π', a1, a2, a3.weak fun _ _ => rfl⟩
    have hf := h0.frame (rst p left O) kz (rst_ext hO hκ (by simp [memP]))
    exact hf.use (fun x hx => by simpa [List.append_assoc, oB, cV] using hx) (fun x hx => by simpa [List.append_assoc, aft] using hx)
  | cons e l =>
    have h0 := ff_step (most := p.most) (y := p.y) (m := n) (M := M) (e := e) (l := l) (hz e List.mem_cons_self)
    have hf := StepF.frame h0 (rst p left O) kz (rst_ext hO hκ (by simp [memP]))
    exact hf.use (fun x hx => by
      simp only [oB, cV, List.length_cons, List.mem_append, List.mem_cons, List.not_mem_nil, or_false] at hx ⊢
      grind) (fun x hx => by
      simp only [aft, List.mem_append, List.mem_cons, List.not_mem_nil, or_false] at hx ⊢
      grind)
end Go.Proofs.YtofbdgmknfbkfaaGreatDoor.nodesLife
namespace Go.Proofs.YtofbdgmknfbkfaaGreatDoor.nodesLife
open Go Go.Mini
/-! ### the sweep, whole -/
def kZ (c : Nat) : Nat := if c = 12 ∨ c = 15 ∨ c = 16 ∨ c = 17 ∨ c = 20 ∨ c = 21 ∨ c = 22 ∨ c = 23 then c + 1 else c
theorem kZ_lt : ∀ c, c < 24 → kZ c = c → k2x c = c ∧ kS c = c ∧ kF c = c := by decide
theorem run_E {n f : Nat} {c : Code} {ts : List AV} {s s' : AS} {e : AExit} {ds : List Dec} {q : List Qst} (h : (runX Tryz.prog none_ n f (.code c ts s) ds).map (fun x => (x.1.e, x.1.s, x.2.2)) = some (e, s', q)) (hq : Qsts Tryz.prog q) : ∃ ts', Sound Tryz.prog (.code c ts s) ⟨e, ts', s'⟩ := by
  cases hr : runX Tryz.prog none_ n f (.code c ts s) ds with
  | none => rw [hr] at h; cases h
  | some x =>
    rw [hr] at h
    obtain ⟨⟨e, ts', s1⟩, ds', q'⟩ := x
    simp only [Option.map_some, Option.some.injEq, Prod.mk.injEq] at h
    obtain ⟨rfl, rfl, rfl⟩ := h
    exact ⟨ts', runX_sound mixed none_sound hr hq⟩
theorem sweep_at {p : SwP} {L : List Ent} {M : PM} {O : AObj} (hL : L ≠ []) (hl : L.length < 1000) (hO : HadAt O L) (hh : p.h < 18446744073709551616) (hE : ∀ e ∈ L, e.e < 18446744073709551616) (hz : ∀ e ∈ L, e.z < 16) (hn : (L.map Ent.z).Nodup) {s : AS} {π : Nat → Nat} (A : At Tryz.prog (sw0 p L M O) GF s π) :
    ∃ vs O' s' π', HadAt O' (pick (fun k => !selV vs k) 0 L) ∧ Sound Tryz.prog (.call 116 [.ptr (π 9) 0, u64 p.h] s) ⟨.ret, [.tuple []], s'⟩ ∧ At Tryz.prog (memP M ++ (aft p L.length (pick (selV vs) 0 L) ++ rst p (pick (fun k => !selV vs k) 0 L) O')) GF s' π' ∧
      Moved 24 (sw0 p L M O) (memP M ++ (aft p L.length (pick (selV vs) 0 L) ++ rst p (pick (fun k => !selV vs k) 0 L) O')) π π' kZ s s' := by
  have A0 : At Tryz.prog (sw0 p L M O) GF (ent s) π := A.same rfl rfl
  obtain ⟨s1, π1, vs, s3, π3, j3, k1, k2, k3, k4, k5, k6, k7, k8⟩ := sw_half hL hl hO.names.2 hh hE A0 (fun nb gb => jS0 (π 9) (π 10) (π 11) nb gb L.length L.length)
  obtain ⟨X, hXe⟩ : ∃ X, X = [(9, S9 p L.length), (14, AObj.cells false Z40), (10, gdO p.k), (18, goO p.thr p.most (.ptr 9 0)), (19, rtO 0 p.z p.g p.b p.e p.r)] := ⟨_, rfl⟩
  have hX : XOk X := fun x hx => by
    rw [hXe] at hx
    simp only [List.mem_cons, List.not_mem_nil, or_false] at hx
    rcases hx with rfl | rfl | rfl | rfl | rfl
    · exact ⟨show 9 < 24 by decide, rfl, show 9 ∉ [7, 8, 11, 12, 13, 20, 21, 23] by decide⟩
    · exact ⟨show 14 < 24 by decide, rfl, show 14 ∉ [7, 8, 11, 12, 13, 20, 21, 23] by decide⟩
    · exact ⟨show 10 < 24 by decide, rfl, show 10 ∉ [7, 8, 11, 12, 13, 20, 21, 23] by decide⟩
    · exact ⟨show 18 < 24 by decide, rfl, show 18 ∉ [7, 8, 11, 12, 13, 20, 21, 23] by decide⟩
    · exact ⟨show 19 < 24 by decide, rfl, show 19 ∉ [7, 8, 11, 12, 13, 20, 21, 23] by decide⟩
  have hX12 : ∀ x ∈ X, x.2.names (fun c => !Nat.beq c 12) = true := fun x hx => by
    rw [hXe] at hx
    simp only [List.mem_cons, List.not_mem_nil, or_false] at hx
    rcases hx with rfl | rfl | rfl | rfl | rfl <;> rfl
  have A3 : At Tryz.prog (swB L vs M O [] [] X) GF s3 π3 := k7.sub fun x hx => by
    rw [hXe] at hx
    simp only [swB, base, oB, sw0, li3, XP, List.nil_append, List.mem_append, List.mem_cons, List.not_mem_nil, or_false] at hx ⊢
    grind
  obtain ⟨O', s4, π4, l1, l2, l3, l4⟩ := lsweep hX hX12 hl k1 hO hn s3 π3 A3
  have q : ∀ c, c < 24 → k2x c = c → π3 c = π c := k8.low
  have p9 : π4 9 = π 9 := (l4.low 9 (by decide) (by decide)).trans (q 9 (by decide) (by decide))
  rw [show π3 11 = π 11 from q 11 (by decide) (by decide), k5] at l2
  have ho : ∀ e ∈ pick (selV vs) 0 L, e.z < 16 := fun e he => hz e (pick_sub e he)
  refine ⟨vs, O', ?_⟩
  generalize pick (selV vs) 0 L = out at *
  generalize pick (fun k => !selV vs k) 0 L = left at *
  -- those that go are told to the scan
  have g9 := at_g l3 (b := 9) (o := S9 p L.length) (by rw [hXe]; simp)
  have cVc : ∀ {a : Nat}, (cV a out).cells = [cV a out] ∧ AV.one (cV a out) = true := fun {a} => by cases out <;> exact ⟨rfl, rfl⟩
  have cVr : ∀ {π : Nat → Nat}, (cV 20 out).ren π = cV (π 20) out := fun {π} => by cases out <;> rfl
  obtain ⟨s5, e1, e2, e3⟩ := st_one (P := Tryz.prog) (t := 138) (o := 7) (v := cV (π4 20) out) zL cVc.1 cVc.2 g9 (show 7 < 9 by decide)
  have eS : AObj.cells false ((rens π4 [.ptr 10 0, u32 p.most, nLd, u8 p.y, i64 (Int.ofNat L.length), sN, u64 0, .nilSlice, .nilSlice]).set 7 (cV (π4 20) out)) = (scO p.most nLd p.y L.length sN (cV 20 out) .nilSlice).ren π4 := by
    show AObj.cells false [_, _, _, _, _, _, _, cV (π4 20) out, _] = AObj.cells false [_, _, _, _, _, _, _, (cV 20 out).ren π4, _]
    rw [cVr]
  rw [eS] at e2
  have l3' : At Tryz.prog (memP M ++ (9, S9 p L.length) :: (oB 20 out ++ rst p left O')) GF s4 π4 := l3.sub fun x hx => by
    rw [hXe]
    simp only [rst, List.mem_append, List.mem_cons, List.not_mem_nil, or_false] at hx ⊢
    grind
  have nO' := l1.names.2
  obtain ⟨A5, M5⟩ := At.put (nx0 := 24) (b := 9) (o' := scO p.most nLd p.y L.length sN (cV 20 out) .nilSlice) (s2 := s5) l3' (fun hm => by
    obtain ⟨x, hx, e⟩ := List.mem_map.1 hm
    rcases List.mem_append.1 hx with hx | hx
    · simp only [memP, List.mem_cons, List.not_mem_nil, or_false] at hx
      rcases hx with rfl | rfl <;> cases e
    · rcases List.mem_append.1 hx with hx | hx
      · have := (oB_mem hx).1
        omega
      · rcases List.mem_append.1 hx with hx | hx
        · rcases liB_mem hx with rfl | ⟨rfl, _⟩ | rfl <;> cases e
        · simp only [List.mem_cons, List.not_mem_nil, or_false] at hx
          rcases hx with rfl | rfl | rfl | rfl <;> cases e) e2 e3
  obtain ⟨s6, π6, f1, f2, f3⟩ := free_at (n := L.length) nO' ho s5 π4 A5
  have f1 : Sound Tryz.prog (.call 120 [.ptr (π4 9) 0] s5) ⟨.ret, [.tuple []], s6⟩ := f1
  rw [p9] at e1 f1
  have ldG : loadA Tryz.prog (ent s) 40 (.ptr (π 9) 0) = some (.ptr (π 10) 0) := at_ld A0 (b := 9) (i := 0) (v := .ptr 10 0) (cs := [.ptr 10 0, u32 p.most, nLd, u8 p.y, i64 (Int.ofNat L.length), sN, u64 0, .nilSlice, .nilSlice]) (by simp [sw0, S9, scO]) rfl aGu
  have ldG3 : loadA Tryz.prog s3 40 (.ptr (π 9) 0) = some (.ptr (π 10) 0) := by
    have := at_ld A3 (b := 9) (i := 0) (v := .ptr 10 0) (cs := [.ptr 10 0, u32 p.most, nLd, u8 p.y, i64 (Int.ofNat L.length), sN, u64 0, .nilSlice, .nilSlice]) (by rw [hXe]; simp [swB, S9, scO]) rfl aGu
    rw [q 9 (by decide) (by decide)] at this
    rw [this]
    show some (AV.ptr (π3 10) 0) = _
    rw [q 10 (by decide) (by decide)]
  have gl0 := gl_at A0 (k := p.k) (o := liV (.osl 12 0 L.length 6) (.map 13)) (by simp [sw0]) (by simp [sw0, li3])
  have gl3 := gl_at A3 (k := p.k) (o := liV (.osl 12 0 L.length 6) (.map 13)) (by rw [hXe]; simp [swB]) (by simp [swB, base])
  rw [q 10 (by decide) (by decide), q 11 (by decide) (by decide)] at gl3
  have qm : (Qst.val (some (i64 (if Int.ofNat L.length < Int.ofNat L.length then Int.ofNat L.length else Int.ofNat L.length))) (i64 (Int.ofNat L.length))).ok Tryz.prog := by
    rw [Qst.ok, if_neg (Int.lt_irrefl _)]
  obtain ⟨ts', hC⟩ := run_E (sw_run (ent s) s1 s3 s4 s5 s6 (π 9) (π 10) (π 11) (π1 22) L.length p.h L.length (cV (π4 20) out) j3) ⟨ldG, gl0, k2, k3, qm, mkS_ok (by omega), k4, ldG3, gl3, l2, ⟨e1, rfl⟩, f1, trivial⟩
  obtain ⟨s7, h1, h2, hF⟩ := swp_call (s := s) hC (.inl rfl)
  refine ⟨s7, π6, l1, hF, f2.same h1 h2, ?_⟩
  have l4' := l4.keys (bs2 := sw0 p L M O ++ [(23, .cells false (bools vs))]) (bs2' := memP M ++ (9, S9 p L.length) :: (oB 20 out ++ rst p left O')) (fun x hx => ⟨x, by
    rw [hXe]
    simp only [rst, List.mem_append, List.mem_cons, List.not_mem_nil, or_false] at hx ⊢
    grind, rfl⟩) (fun x hx => ⟨x, by
    rw [hXe] at hx
    simp only [swB, base, oB, sw0, li3, XP, List.nil_append, List.mem_append, List.mem_cons, List.not_mem_nil, or_false] at hx ⊢
    grind, rfl⟩)
  have a1 := k8.comp l4' (κ3 := kZ) fun c hc h => ⟨(kZ_lt c hc h).1, (kZ_lt c hc h).2.1⟩
  have a2 := a1.comp M5 (κ3 := kZ) fun c hc h => ⟨h, rfl⟩
  have a3 := a2.comp f3 (κ3 := kZ) fun c hc h => ⟨h, (kZ_lt c hc h).2.2⟩
  exact a3.same rfl rfl h1 h2
end Go.Proofs.YtofbdgmknfbkfaaGreatDoor.nodesLife
namespace Go.Proofs.YtofbdgmknfbkfaaGreatDoor.nodesLife
open Go Go.Mini
/-! ### behind the load of the epoch -/
theorem nx_run (s s1 : AS) (a b h : Nat) : (runX Tryz.prog none_ 60 102 (.code (cOf 102) ([.ptr a 0] ++ List.replicate 82 undefA) s) [.val 102 0 3 (.iface 213 (.ptr b 0)), .val 102 3 3 (u8 1), .val 102 6 4 (u64 h), .call 102 6 5 (.tuple []) (fun _ => s1)]).map (fun x => (x.1.e, x.1.s, x.2.2)) = some (AExit.normal, s1, [.ld 207 s (.ptr a 2) (AV.iface 213 (.ptr b 0)), .ld 36 s (.ptr b 0) (.int .u8 (Int.ofNat 1)), .ld 31 s (.ptr b 1) (.int .u64 (Int.ofNat h)), .snd (.call 116 [.ptr a 0, .int .u64 (Int.ofNat h)] s) { e := .ret, ts := [.tuple []], s := s1 }]) := by kernel_rfl
theorem nx_call {s s' : AS} {a : Nat} {e : AExit} {ts' : List AV} (h : Sound Tryz.prog (.code (cOf 102) ([.ptr a 0] ++ List.replicate 82 undefA) (ent s)) ⟨e, ts', s'⟩) (he : e = .normal ∨ e = .ret) : ∃ s2 : AS, s2.h.bs = s'.h.bs ∧ s2.nx = s'.nx ∧ Sound Tryz.prog (.call 102 [.ptr a 0] s) ⟨.ret, [.tuple []], s2⟩ := by
  have := keepC2 (s := s) (f := 102) (fn := Tryz.f102) (c := cOf 102) (args := [.ptr a 0]) (vs := []) Tryz.func102 (by kernel_rfl) (by rw [show Tryz.f102.ntmps = 83 from by kernel_rfl]; exact h) he (by rw [show Tryz.f102.results.toList = [] from by kernel_rfl]; rfl)
  exact ⟨⟨⟨s'.h.bs, s'.h.len, none, olds s.nx s'.h.wr s.h.wr⟩, s'.nx⟩, rfl, rfl, this⟩
theorem aK : isAggA Tryz.prog 36 = some false := by kernel_rfl
theorem aU : isAggA Tryz.prog 31 = some false := by kernel_rfl
theorem next_at {p : SwP} {L : List Ent} {M : PM} {O : AObj} (hL : L ≠ []) (hl : L.length < 1000) (hO : HadAt O L) (hh : p.h < 18446744073709551616) (hE : ∀ e ∈ L, e.e < 18446744073709551616) (hz : ∀ e ∈ L, e.z < 16) (hn : (L.map Ent.z).Nodup) {s : AS} {π : Nat → Nat} (A : At Tryz.prog (sw0 p L M O) GF s π) :
    ∃ vs O' s' π', HadAt O' (pick (fun k => !selV vs k) 0 L) ∧ Sound Tryz.prog (.call 102 [.ptr (π 9) 0] s) ⟨.ret, [.tuple []], s'⟩ ∧ At Tryz.prog (memP M ++ (aft p L.length (pick (selV vs) 0 L) ++ rst p (pick (fun k => !selV vs k) 0 L) O')) GF s' π' ∧
      Moved 24 (sw0 p L M O) (memP M ++ (aft p L.length (pick (selV vs) 0 L) ++ rst p (pick (fun k => !selV vs k) 0 L) O')) π π' kZ s s' := by
  have A0 : At Tryz.prog (sw0 p L M O) GF (ent s) π := A.same rfl rfl
  obtain ⟨vs, O', s1, π1, h1, h2, h3, h4⟩ := sweep_at hL hl hO hh hE hz hn A0
  have m15 : (15, AObj.cells false [u8 1, u64 p.h]) ∈ sw0 p L M O := by
    show (15, ldO 1 p.h) ∈ _
    simp [sw0, XP]
  have ldN := at_ld A0 (b := 9) (i := 2) (v := nLd) (t := 207) (cs := [.ptr 10 0, u32 p.most, nLd, u8 p.y, i64 (Int.ofNat L.length), sN, u64 0, .nilSlice, .nilSlice]) (by simp [sw0, S9, scO]) rfl cA
  obtain ⟨ts', hC⟩ := run_E (nx_run (ent s) s1 (π 9) (π 15) p.h) ⟨ldN, at_ld A0 (t := 36) (i := 0) (v := u8 1) m15 rfl aK, at_ld A0 (t := 31) (i := 1) (v := u64 p.h) m15 rfl aU, h2, trivial⟩
  obtain ⟨s2, e1, e2, hF⟩ := nx_call (s := s) hC (.inl rfl)
  exact ⟨vs, O', s2, π1, h1, hF, h3.same e1 e2, h4.same rfl rfl e1 e2⟩
end Go.Proofs.YtofbdgmknfbkfaaGreatDoor.nodesLife
namespace Go.Proofs.YtofbdgmknfbkfaaGreatDoor.nodesLife
open Go Go.Mini
/-! ### a Gone's step, at an At: what its scan's step leaves may hang on the state -/
theorem sc_at {bs bs1 : List (Nat × AObj)} {κ : Nat → Nat} {t : TypeId} {cs : List AV} {s : AS} {π : Nat → Nat} (A : At Tryz.prog bs GF s π) (ht : isPart t) (hs : StepF Tryz.prog GF 24 (stepOf t) aA (.bool true) bs bs1 κ) (h9 : (9, AObj.cells false cs) ∈ bs) (h2 : cs[2]? = some (.iface t (.ptr 15 0))) (k9 : κ 9 = 9) {P : List (Nat × AObj) → Bool → Prop} {κ2 : Nat → Nat}
    (hn : ∀ (s : AS) (π : Nat → Nat), At Tryz.prog bs1 GF s π → ∃ (bs2 : List (Nat × AObj)) (d : Bool) (s' : AS) (π' : Nat → Nat), P bs2 d ∧ Sound Tryz.prog (.call 102 [.ptr (π 9) 0] s) ⟨.ret, [.tuple []], s'⟩ ∧ At Tryz.prog bs2 GF s' π' ∧ Moved 24 bs1 bs2 π π' κ2 s s')
    (hP : ∀ bs2 d, P bs2 d → ∃ (cs' : List AV) (now : AV), (9, AObj.cells false cs') ∈ bs2 ∧ cs'[2]? = some now ∧ NowOk d now) (k92 : κ2 9 = 9) :
    ∃ (bs2 : List (Nat × AObj)) (cs' : List AV) (now : AV) (d : Bool) (s' : AS) (π' : Nat → Nat), P bs2 d ∧ (9, AObj.cells false cs') ∈ bs2 ∧ cs'[2]? = some now ∧ NowOk d now ∧ Sound Tryz.prog (.call 78 [.ptr (π 9) 0, .ptr (π 7) 0] s) ⟨.ret, [.bool d], s'⟩ ∧ At Tryz.prog bs2 GF s' π' ∧ Moved 24 bs bs2 π π' (kc κ κ2) s s' := by
  have A0 : At Tryz.prog bs GF (ent s) π := A.same rfl rfl
  obtain ⟨s2, π2, hS, A2, Mv⟩ := hs (ent s) π A0
  have p9 : π2 9 = π 9 := Mv.low 9 (by decide) k9
  obtain ⟨bs3, d, s3, π3, hp, hN, A3, Mv3⟩ := hn s2 π2 A2
  obtain ⟨cs', now, h9', h2', hnow⟩ := hP bs3 d hp
  have p93 : π3 9 = π2 9 := Mv3.low 9 (by decide) k92
  rw [p9] at hN
  have q3 := so_at A3 h9' h2' hnow
  rw [p93, p9] at q3
  obtain ⟨ts', hj, hC⟩ := code_at (w_y (ent s) (ent s) s2 s3 s3 (π 9) (π 7) (π 15) d ht) ⟨so_at A0 h9 h2 (.inr ⟨rfl, _, _, rfl⟩), at_ld A0 h9 h2 cA, hS, hN, q3, trivial⟩
  obtain ⟨s4, e1, e2, hF⟩ := sc_call (s := s) hj hC (.inr rfl)
  exact ⟨bs3, cs', now, d, s4, π3, hp, h9', h2', hnow, hF, A3.same e1 e2, (Mv.comp Mv3 fun b _ h => kc_ok h).same rfl rfl e1 e2⟩
theorem go_at2 {bs bs1 : List (Nat × AObj)} {κ : Nat → Nat} {d : Bool} {now now' : AV} {thr most thr' most' : Nat} {c2 c2' c3 c3' : List AV} {s : AS} {π : Nat → Nat} (A : At Tryz.prog bs GF s π) (h18 : (18, goO thr most (.ptr 9 0)) ∈ bs) (h19 : (19, AObj.cells false c2) ∈ bs) (i19 : c2[1]? = some (i64 0)) (h9 : (9, AObj.cells false c3) ∈ bs) (i9 : c3[2]? = some now) (n9 : NowOk false now)
    (hs : ∃ (s' : AS) (π' : Nat → Nat), Sound Tryz.prog (.call 78 [.ptr (π 9) 0, .ptr (π 7) 0] (ent s)) ⟨.ret, [.bool d], s'⟩ ∧ At Tryz.prog bs1 GF s' π' ∧ Moved 24 bs bs1 π π' κ (ent s) s') (h18' : (18, goO thr' most' (.ptr 9 0)) ∈ bs1) (h19' : (19, AObj.cells false c2') ∈ bs1) (i19' : c2'[1]? = some (i64 0)) (h9' : (9, AObj.cells false c3') ∈ bs1) (i9' : c3'[2]? = some now') (n9' : NowOk d now') (k18 : κ 18 = 18) :
    ∃ (s' : AS) (π' : Nat → Nat), Sound Tryz.prog (.call 38 [.ptr (π 18) 0, .ptr (π 7) 0] s) ⟨.ret, [.bool d], s'⟩ ∧ At Tryz.prog bs1 GF s' π' ∧ Moved 24 bs bs1 π π' κ s s' := by
  have A0 : At Tryz.prog bs GF (ent s) π := A.same rfl rfl
  obtain ⟨s2, π2, hS, A2, Mv⟩ := hs
  have p18 : π2 18 = π 18 := Mv.low 18 (by decide) k18
  have q2 := go_at A2 h18' rfl rfl h19' i19' h9' i9' n9'
  rw [p18] at q2
  obtain ⟨ts', hj, hC⟩ := code_at (w_go (ent s) (ent s) (ent s) s2 s2 (π 18) (π 7) (π 19) (π 9) d d) ⟨go_at A0 h18 rfl rfl h19 i19 h9 i9 n9, at_ld A0 (t := 149) (i := 4) (v := .ptr 19 0) h18 rfl cR, ro_at A0 h19 i19, at_ld A0 (t := 151) (i := 5) (v := .ptr 9 0) h18 rfl cS, hS, q2, trivial⟩
  obtain ⟨s3, e1, e2, hF⟩ := go_call (s := s) hj hC (.inr rfl)
  exact ⟨s3, π2, hF, A2.same e1 e2, Mv.same rfl rfl e1 e2⟩
end Go.Proofs.YtofbdgmknfbkfaaGreatDoor.nodesLife
namespace Go.Proofs.YtofbdgmknfbkfaaGreatDoor.nodesLife
open Go Go.Mini
/-! ### a Gone's step that loads the epoch, and sweeps -/
def sw1 (p : SwP) (L : List Ent) (M : PM) (O : AObj) : List (Nat × AObj) := memP M ++ ([(15, ldO 1 0)] ++ ([(9, S9 p L.length), (14, .cells false Z40), (10, gdO p.k)] ++ (li3 L O ++ [(18, goO p.thr p.most (.ptr 9 0)), (19, rtO 0 p.z p.g p.b p.e p.r)])))
theorem ld5 {p : SwP} {L : List Ent} {M : PM} {O : AObj} (hO : O.names (fun _ => false) = true) (hp : p.h = getW M.ms aEp) : StepF Tryz.prog GF 24 (stepOf 213) aA (.bool true) (sw1 p L M O) (sw0 p L (M.load aEp) O) (fun c => c) := by
  have h0 : SF 181 aA (.bool true) M (M.load aEp) [(15, ldO 1 0)] [(15, ldO 1 p.h)] (kl []) := stp (k_l1 M (M.load aEp) (mapO M.ms) p.h) (mld_ok' hp.symm trivial) rfl
  have hf := StepF.frame h0 ([(9, S9 p L.length), (14, .cells false Z40), (10, gdO p.k)] ++ (li3 L O ++ [(18, goO p.thr p.most (.ptr 9 0)), (19, rtO 0 p.z p.g p.b p.e p.r)])) (fun x hx => ⟨by have := (gz x hx).1; omega, rfl⟩) (eachX_all fun x hx => by
    simp only [li3, List.mem_append, List.mem_cons, List.not_mem_nil, or_false] at hx
    rcases hx with (rfl | rfl | rfl) | (rfl | rfl | rfl) | rfl | rfl
    · exact ⟨show 9 < 24 by decide, rfl, rfl, by simp [memP]⟩
    · exact ⟨show 14 < 24 by decide, rfl, rfl, by simp [memP]⟩
    · exact ⟨show 10 < 24 by decide, rfl, rfl, by simp [memP]⟩
    · exact ⟨show 11 < 24 by decide, rfl, rfl, by simp [memP]⟩
    · exact ⟨show 12 < 24 by decide, rfl, entsC_names _ _, by simp [memP]⟩
    · exact ⟨show 13 < 24 by decide, rfl, raw_any hO _, by simp [memP]⟩
    · exact ⟨show 18 < 24 by decide, rfl, rfl, by simp [memP]⟩
    · exact ⟨show 19 < 24 by decide, rfl, rfl, by simp [memP]⟩)
  have hu := hf.use (b1 := sw1 p L M O) (b2 := sw0 p L (M.load aEp) O) (fun x hx => by
    simp only [sw1, List.mem_append, List.mem_cons, List.not_mem_nil, or_false] at hx ⊢
    grind) (fun x hx => by
    simp only [sw0, XP, List.mem_append, List.mem_cons, List.not_mem_nil, or_false] at hx ⊢
    grind)
  exact hu
/-- What lies there behind a sweep, by its row of bools. -/
def s5B (p : SwP) (L : List Ent) (M : PM) (vs : List Bool) (O' : AObj) : List (Nat × AObj) := memP M ++ (aft p L.length (pick (selV vs) 0 L) ++ rst p (pick (fun k => !selV vs k) 0 L) O')
def isE (l : List Ent) : Bool := match l with
  | [] => true
  | _ :: _ => false
theorem aft_9 {p : SwP} {n : Nat} {out : List Ent} : ∃ cs now, (9, AObj.cells false cs) ∈ aft p n out ∧ cs[2]? = some now ∧ NowOk (isE out) now := by
  cases out with
  | nil => exact ⟨[.ptr 10 0, u32 p.most, .nilIface, u8 p.y, i64 (Int.ofNat n), sN, u64 0, .nilSlice, .nilSlice], .nilIface, by simp [aft, scO], rfl, .inl ⟨rfl, rfl⟩⟩
  | cons e l => exact ⟨[.ptr 10 0, u32 p.most, nFr, u8 p.y, i64 (Int.ofNat n), sN, u64 0, .slice 20 6 l.length l.length, .osl 21 0 1 3], nFr, by simp [aft, scO], rfl, .inr ⟨rfl, _, _, rfl⟩⟩
theorem s5_at {p : SwP} {L : List Ent} {M : PM} {O : AObj} (hL : L ≠ []) (hl : L.length < 1000) (hO : HadAt O L) (hp : p.h = getW M.ms aEp) (hh : p.h < 18446744073709551616) (hE : ∀ e ∈ L, e.e < 18446744073709551616) (hz : ∀ e ∈ L, e.z < 16) (hn : (L.map Ent.z).Nodup) {s : AS} {π : Nat → Nat} (A : At Tryz.prog (sw1 p L M O) GF s π) :
    ∃ (vs : List Bool) (O' : AObj) (s' : AS) (π' : Nat → Nat), HadAt O' (pick (fun k => !selV vs k) 0 L) ∧ Sound Tryz.prog (.call 38 [.ptr (π 18) 0, .ptr (π 7) 0] s) ⟨.ret, [.bool (isE (pick (selV vs) 0 L))], s'⟩ ∧ At Tryz.prog (s5B p L (M.load aEp) vs O') GF s' π' ∧ Moved 24 (sw1 p L M O) (s5B p L (M.load aEp) vs O') π π' (kc (fun c => c) kZ) s s' := by
  have A0 : At Tryz.prog (sw1 p L M O) GF (ent s) π := A.same rfl rfl
  have m9 : (9, AObj.cells false [.ptr 10 0, u32 p.most, nLd, u8 p.y, i64 (Int.ofNat L.length), sN, u64 0, .nilSlice, .nilSlice]) ∈ sw1 p L M O := by simp [sw1, S9, scO]
  obtain ⟨bs2, cs', now, d, s2, π2, ⟨vs, O', hbs, hO', hd⟩, h9', i9', n9', hS, A2, Mv⟩ := sc_at (P := fun bs2 d => ∃ vs O', bs2 = s5B p L (M.load aEp) vs O' ∧ HadAt O' (pick (fun k => !selV vs k) 0 L) ∧ d = isE (pick (selV vs) 0 L)) (κ2 := kZ) A0 (.inl rfl) (ld5 hO.names.2 hp) m9 rfl rfl (fun s π A => by
    obtain ⟨vs, O', s', π', h1, h2, h3, h4⟩ := next_at hL hl hO hh hE hz hn A
    exact ⟨_, _, s', π', ⟨vs, O', rfl, h1, rfl⟩, h2, h3, h4⟩) (fun bs2 d ⟨vs, O', hb, _, hd⟩ => by
    obtain ⟨cs, now, a, b, c⟩ := aft_9 (p := p) (n := L.length) (out := pick (selV vs) 0 L)
    exact ⟨cs, now, by rw [hb]; simp [s5B, a], b, by rw [hd]; exact c⟩) (by decide)
  subst hbs
  subst hd
  obtain ⟨s3, π3, h1, h2, h3⟩ := go_at2 (thr := p.thr) (most := p.most) (thr' := p.thr) (most' := p.most) (c2 := [.ptr 10 0, i64 0, i64 p.z, u32 p.g, .bool false, u64 p.b, u64 p.e, u64 p.r]) (c2' := [.ptr 10 0, i64 0, i64 p.z, u32 p.g, .bool false, u64 p.b, u64 p.e, u64 p.r]) A (by simp [sw1]) (by simp [sw1, rtO]) rfl m9 rfl (.inr ⟨rfl, _, _, rfl⟩) ⟨s2, π2, hS, A2, Mv⟩ (by simp [s5B, rst]) (by simp [s5B, rst, rtO]) rfl h9' i9' n9' (by decide)
  exact ⟨vs, O', s3, π3, hO', h1, h2, h3⟩
end Go.Proofs.YtofbdgmknfbkfaaGreatDoor.nodesLife
