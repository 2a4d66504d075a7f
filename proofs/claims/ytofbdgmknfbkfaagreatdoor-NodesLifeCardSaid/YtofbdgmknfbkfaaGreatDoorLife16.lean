/- Something begins; calls of the shadow and of the memory. Conditions: those that each theorem names, and no others. -/
import Derived.Test.YtofbdgmknfbkfaaGreatDoorLife15
namespace Go.Proofs.YtofbdgmknfbkfaaGreatDoor.nodesLife
open Go Go.Mini
/-! ### idle, begin: run in any state -/
def envA (gp thr most : Nat) : AV := .agg [.ptr gp 0, i64 (Int.ofNat thr), i64 0, u32 most]
def z3Q (n w q : Nat) (b0 b1 : Bool) : List Qst := [.val (some (.bool (Int.ofNat n == Int.ofNat 0))) (.bool false), .val (some (.int .u8 (Int.ofNat (w % 3)))) (u8 q), .val (some (.bool (Int.ofNat q == Int.ofNat 0))) (.bool b0)] ++ (bif b0 then [] else [.val (some (.int .u8 (Int.ofNat (w % 3)))) (u8 q), .val (some (.bool (Int.ofNat q == Int.ofNat 1))) (.bool b1)])
theorem be_g (s s1 s2 s3 : AS) (tb o w q n x hb ho z g gp thr most : Nat) (hv hv' : AV) : beR s tb o w [.val 12 2 3 hv, .val 12 2 4 (i64 (Int.ofNat n)), .val 12 2 5 (.bool false), .val 12 2 8 (u8 q), .val 12 2 9 (.bool false), .val 12 4 1 (u8 q), .val 12 4 2 (.bool true), .skip 12 5 999, .val 12 5 4 (envA gp thr most), .val 12 5 8 hv, .val 12 5 9 (.ptr hb ho), .val 12 5 10 (refA (Int.ofNat z) g), .call 12 5 11 (.ptr x 0) (fun _ => s1), .eff 12 5 14 undefA (fun _ => s2), .val 12 6 4 hv, .val 12 6 5 hv', .eff 12 6 8 undefA (fun _ => s3)] =
  some (.normal, s3, [.ld 49 s (.ptr tb (o + 4)) hv, .ln 49 s hv (i64 (Int.ofNat n))] ++ (z3Q n w q false true ++ [.ld 43 s (.ptr tb (o + 0)) (envA gp thr most), .ld 49 s (.ptr tb (o + 4)) hv, .idx 49 hv (i64 0) (.ptr hb ho), .ld 74 s (.ptr hb ho) (refA (Int.ofNat z) g), .snd (.call 34 [envA gp thr most, refA (Int.ofNat z) g] s) ⟨.ret, [.ptr x 0], s1⟩, .sto s1 52 (.ptr tb (o + 7)) (.ptr x 0) undefA s2,
    .ld 74 s (.ptr hb ho) (refA (Int.ofNat z) g), .ld 49 s (.ptr tb (o + 4)) hv, .ld 43 s (.ptr tb (o + 0)) (envA gp thr most), .ld 49 s2 (.ptr tb (o + 4)) hv, .sli 49 hv (some (i64 1)) none none hv', .sto s2 49 (.ptr tb (o + 4)) hv' undefA s3])) := by kernel_rfl
theorem be_f (s s1 s2 s3 : AS) (tb o w q n x hb ho z most : Nat) (hv hv' : AV) : beR s tb o w [.val 12 2 3 hv, .val 12 2 4 (i64 (Int.ofNat n)), .val 12 2 5 (.bool false), .val 12 2 8 (u8 q), .val 12 2 9 (.bool false), .val 12 4 1 (u8 q), .val 12 4 2 (.bool false), .skip 12 0 999, .val 12 0 4 hv, .val 12 0 5 (.ptr hb ho), .val 12 0 7 (i64 (Int.ofNat z)), .val 12 0 12 (u32 most), .call 12 0 13 (.ptr x 0) (fun _ => s1), .eff 12 0 16 undefA (fun _ => s2), .val 12 1 4 hv, .val 12 1 5 hv', .eff 12 1 8 undefA (fun _ => s3)] =
  some (.normal, s3, [.ld 49 s (.ptr tb (o + 4)) hv, .ln 49 s hv (i64 (Int.ofNat n))] ++ (z3Q n w q false false ++ [.ld 49 s (.ptr tb (o + 4)) hv, .idx 49 hv (i64 0) (.ptr hb ho), .ld 3 s (.ptr hb (ho + 0)) (i64 (Int.ofNat z)), .ld 41 s (.ptr tb (o + 0 + 3)) (u32 most), .snd (.call 35 [i64 (Int.ofNat z), u32 most] s) ⟨.ret, [.ptr x 0], s1⟩, .sto s1 53 (.ptr tb (o + 8)) (.ptr x 0) undefA s2,
    .ld 41 s (.ptr tb (o + 0 + 3)) (u32 most), .ld 3 s (.ptr hb (ho + 0)) (i64 (Int.ofNat z)), .ld 49 s (.ptr tb (o + 4)) hv, .ld 49 s2 (.ptr tb (o + 4)) hv, .sli 49 hv (some (i64 1)) none none hv', .sto s2 49 (.ptr tb (o + 4)) hv' undefA s3])) := by kernel_rfl
theorem be_a0 (s s1 s2 : AS) (tb o w n x : Nat) (hv : AV) : beR s tb o w [.val 12 2 3 hv, .val 12 2 4 (i64 (Int.ofNat n)), .val 12 2 5 (.bool true), .call 12 3 1 (.ptr x 0) (fun _ => s1), .eff 12 3 4 undefA (fun _ => s2)] =
  some (.normal, s2, [.ld 49 s (.ptr tb (o + 4)) hv, .ln 49 s hv (i64 (Int.ofNat n)), .val (some (.bool (Int.ofNat n == Int.ofNat 0))) (.bool true), .snd (.call 33 [] s) ⟨.ret, [.ptr x 0], s1⟩, .sto s1 50 (.ptr tb (o + 5)) (.ptr x 0) undefA s2]) := by kernel_rfl
theorem be_a1 (s s1 s2 : AS) (tb o w q n x : Nat) (hv : AV) : beR s tb o w [.val 12 2 3 hv, .val 12 2 4 (i64 (Int.ofNat n)), .val 12 2 5 (.bool false), .val 12 2 8 (u8 q), .val 12 2 9 (.bool true), .call 12 3 1 (.ptr x 0) (fun _ => s1), .eff 12 3 4 undefA (fun _ => s2)] =
  some (.normal, s2, [.ld 49 s (.ptr tb (o + 4)) hv, .ln 49 s hv (i64 (Int.ofNat n))] ++ (z3Q n w q true true ++ [.snd (.call 33 [] s) ⟨.ret, [.ptr x 0], s1⟩, .sto s1 50 (.ptr tb (o + 5)) (.ptr x 0) undefA s2])) := by kernel_rfl
theorem id_al (s : AS) (tb o x : Nat) : idR s tb o [.val 11 1 3 (.ptr x 0)] = some (.ret, [.bool false], leave s (ent s) (.bool false), [.ld 50 (ent s) (.ptr tb (o + 5)) (.ptr x 0)]) := by kernel_rfl
theorem id_mk (s : AS) (tb o x : Nat) : idR s tb o [.val 11 1 3 .nilPtr, .val 11 1 9 (.ptr x 0)] = some (.ret, [.bool false], leave s (ent s) (.bool false), [.ld 50 (ent s) (.ptr tb (o + 5)) .nilPtr, .ld 51 (ent s) (.ptr tb (o + 6)) (.ptr x 0)]) := by kernel_rfl
theorem id_go (s : AS) (tb o x : Nat) : idR s tb o [.val 11 1 3 .nilPtr, .val 11 1 9 .nilPtr, .val 11 1 16 (.ptr x 0)] = some (.ret, [.bool false], leave s (ent s) (.bool false), [.ld 50 (ent s) (.ptr tb (o + 5)) .nilPtr, .ld 51 (ent s) (.ptr tb (o + 6)) .nilPtr, .ld 52 (ent s) (.ptr tb (o + 7)) (.ptr x 0)]) := by kernel_rfl
theorem id_fr (s : AS) (tb o x : Nat) : idR s tb o [.val 11 1 3 .nilPtr, .val 11 1 9 .nilPtr, .val 11 1 16 .nilPtr, .val 11 1 23 (.ptr x 0)] = some (.ret, [.bool false], leave s (ent s) (.bool false), [.ld 50 (ent s) (.ptr tb (o + 5)) .nilPtr, .ld 51 (ent s) (.ptr tb (o + 6)) .nilPtr, .ld 52 (ent s) (.ptr tb (o + 7)) .nilPtr, .ld 53 (ent s) (.ptr tb (o + 8)) (.ptr x 0)]) := by kernel_rfl
theorem id_no (s : AS) (tb o : Nat) : idR s tb o [.val 11 1 3 .nilPtr, .val 11 1 9 .nilPtr, .val 11 1 16 .nilPtr, .val 11 1 23 .nilPtr] = some (.ret, [.bool true], leave s (ent s) (.bool true), [.ld 50 (ent s) (.ptr tb (o + 5)) .nilPtr, .ld 51 (ent s) (.ptr tb (o + 6)) .nilPtr, .ld 52 (ent s) (.ptr tb (o + 7)) .nilPtr, .ld 53 (ent s) (.ptr tb (o + 8)) .nilPtr]) := by kernel_rfl
theorem be_call {s s' : AS} {tb o w : Nat} {e : AExit} {ts' : List AV} (h : Sound Tryz.prog (.code (cOf 12) (bT tb o w) (ent s)) ⟨e, ts', s'⟩) (he : e = .normal ∨ e = .ret) : ∃ s2 : AS, s2.h.bs = s'.h.bs ∧ s2.nx = s'.nx ∧ Sound Tryz.prog (.call 12 [.ptr tb o, .int .u8 (Int.ofNat w)] s) ⟨.ret, [.tuple []], s2⟩ := by
  have := keepC2 (s := s) (f := 12) (fn := Tryz.f12) (c := cOf 12) (args := [.ptr tb o, .int .u8 (Int.ofNat w)]) (vs := []) Tryz.func12 (by kernel_rfl) (by rw [show Tryz.f12.ntmps = 70 from by kernel_rfl]; exact h) he (by rw [show Tryz.f12.results.toList = [] from by kernel_rfl]; rfl)
  exact ⟨⟨⟨s'.h.bs, s'.h.len, none, olds s.nx s'.h.wr s.h.wr⟩, s'.nx⟩, rfl, rfl, this⟩
/-! ### where they lie -/
def noB (q : Kd) : Bool := match q with
  | .no => true
  | _ => false
theorem uRf : Tryz.prog.underlying 49 = some (.slice 74) := by kernel_rfl
theorem gEn : isAggA Tryz.prog 43 = some true := by kernel_rfl
theorem zEn : sizeA Tryz.prog 43 = some 4 := by kernel_rfl
theorem g32 : isAggA Tryz.prog 41 = some false := by kernel_rfl
theorem drop_at {R : List AV} {i : Nat} {a : AV} (h : R[i]? = some a) : R.drop i = a :: R.drop (i + 1) := by
  obtain ⟨h1, h2⟩ := List.getElem?_eq_some_iff.1 h
  rw [List.drop_eq_getElem_cons h1, h2]
theorem ld_env {s : AS} {tb i gp thr most : Nat} {R : List AV} (h : s.get tb = some (.cells false R)) (h0 : R[i]? = some (.ptr gp 0)) (h1 : R[i + 1]? = some (i64 (Int.ofNat thr))) (h2 : R[i + 2]? = some (i64 0)) (h3 : R[i + 3]? = some (u32 most)) : loadA Tryz.prog s 43 (.ptr tb (i + 0)) = some (envA gp thr most) := by
  have hd : R.drop (i + 0) = .ptr gp 0 :: i64 (Int.ofNat thr) :: i64 0 :: u32 most :: R.drop (i + 4) := by rw [Nat.add_zero, drop_at h0, drop_at h1, drop_at h2, drop_at h3]
  simp only [loadA, gEn, zEn, readA, h, hd]
  rfl
theorem ln_held {s : AS} {v : AV} {b : Nat} {held : List RefP} (h : HeldV s v b held) (s2 : AS) : lenA Tryz.prog s2 49 v = some (i64 (Int.ofNat held.length)) := by
  rcases h with ⟨rfl, rfl⟩ | ⟨o, R, rfl, _⟩
  · simp only [lenA, uRf]; rfl
  · simp only [lenA, uRf]; rfl
theorem held_cons {s : AS} {v : AV} {b z g : Nat} {l : List RefP} (h : HeldV s v b ((z, g) :: l)) : ∃ o R, v = .osl b o (l.length + 1) 3 ∧ s.get b = some (.cells false R) ∧ R.drop o = i64 (Int.ofNat z) :: u32 g :: .bool false :: refsC l ∧ namess (fun _ => false) R = true := by
  rcases h with ⟨_, h⟩ | ⟨o, R, h1, h2, h3, h4⟩
  · cases h
  · exact ⟨o, R, h1, h2, h3, h4⟩
/-- The i-th of a row that is held. -/
theorem held_at {s : AS} {v : AV} {b : Nat} {held : List RefP} (h : HeldV s v b held) {i : Nat} (hi : i < held.length) : ∃ p, indexAddrA Tryz.prog 49 v (.int .i64 (Int.ofNat i)) = some (.ptr b p) ∧ loadA Tryz.prog s 74 (.ptr b p) = some (refA (Int.ofNat held[i].1) held[i].2) := by
  rcases h with ⟨_, rfl⟩ | ⟨o, R, rfl, h2, h3, h4⟩
  · exact absurd hi (Nat.not_lt_zero i)
  · refine ⟨o + i * 3, ?_, ?_⟩
    · simp only [indexAddrA, uRf, zR]
      rw [if_pos ⟨Int.natCast_nonneg i, by simp only [Int.ofNat_eq_natCast]; omega⟩]
      rfl
    · have : R.drop (o + i * 3) = refsC (held.drop i) := by
        rw [← List.drop_drop, h3]
        clear h3 h2 h4 hi
        induction i generalizing held with
        | zero => rfl
        | succ i ih =>
          cases held with
          | nil => simp [refsC]
          | cons r l =>
            rw [show (i + 1) * 3 = 3 + i * 3 by omega, ← List.drop_drop]
            exact ih
      rw [List.drop_eq_getElem_cons hi] at this
      have this : R.drop (o + i * 3) = i64 (Int.ofNat held[i].1) :: u32 held[i].2 :: .bool false :: refsC (held.drop (i + 1)) := this
      simp only [loadA, gE, zR, readA, h2, this]
      rfl
theorem li_xb {L : List Ent} {B : List (Nat × AObj)} (h : LiAt L B) : XK [11, 12, 13] K4 B := by
  rcases h with ⟨_, rfl⟩ | ⟨_, OH, hO, rfl⟩ | ⟨_, OH, hO, rfl⟩
  · exact XK.cons rfl rfl XK.nil
  · exact XK.cons rfl rfl (XK.cons rfl (raw_any hO.names.2 _) XK.nil)
  · exact XK.cons rfl rfl (XK.cons rfl (entsC_names _ _) (XK.cons rfl (raw_any hO.names.2 _) XK.nil))
section
variable {thr most K : Nat} {M : PM} {FL : List Nat} {th : Nat → Th} {G G0 : List RefP} {H : HS} {s : AS} {w : Nat → Nat} {C : Nat → List (Nat × AObj)} {ψ : Nat → Nat → Nat} {tb : Nat} {hb : Nat → Nat} {hv : Nat → AV} {Ks : List Nat} {k : Nat}
theorem idle_at (L : LayL thr most M th G H s w C ψ tb hb hv Ks) (hk : k < 3) : Sound Tryz.prog (.call 11 [.ptr tb (9 * k)] s) ⟨.ret, [.bool (noB (kd (th k).op))], s⟩ := by
  obtain ⟨R, hR, hRo⟩ := L.row
  have hR : (ent s).get tb = some (.cells false R) := hR
  have ra := hRo.a k hk
  have rb := hRo.b k hk
  have rc := hRo.c k hk
  have rf := hRo.f k hk
  cases hq : kd (th k).op <;> rw [hq] at ra rb rc rf
  · exact rd_of (id_no s tb (9 * k)) rfl ⟨ld_cell g5A hR ra, ld_cell g5M hR rb, ld_cell g5G hR rc, ld_cell g5F hR rf, trivial⟩
  · exact rd_of (id_al s tb (9 * k) (ψ k 15)) rfl ⟨ld_cell g5A hR ra, trivial⟩
  · exact rd_of (id_mk s tb (9 * k) (ψ k 15)) rfl ⟨ld_cell g5A hR ra, ld_cell g5M hR rb, trivial⟩
  · exact rd_of (id_go s tb (9 * k) (ψ k 18)) rfl ⟨ld_cell g5A hR ra, ld_cell g5M hR rb, ld_cell g5G hR rc, trivial⟩
  · exact rd_of (id_fr s tb (9 * k) (ψ k 15)) rfl ⟨ld_cell g5A hR ra, ld_cell g5M hR rb, ld_cell g5G hR rc, ld_cell g5F hR rf, trivial⟩
end
end Go.Proofs.YtofbdgmknfbkfaaGreatDoor.nodesLife
namespace Go.Proofs.YtofbdgmknfbkfaaGreatDoor.nodesLife
open Go Go.Mini
/-! ### something begins, where it lies -/
theorem beqN (n m : Nat) : (Int.ofNat n == Int.ofNat m) = (n == m) := by
  by_cases e : n = m
  · rw [e]; simp
  · have h1 : (n == m) = false := by simpa using e
    have h2 : (Int.ofNat n == Int.ofNat m) = false := by
      have : Int.ofNat n ≠ Int.ofNat m := fun h => e (Int.ofNat.inj h)
      simpa using this
    rw [h1, h2]
theorem qz {n m : Nat} {v : Bool} (h : (n == m) = v) : (Qst.val (some (.bool (Int.ofNat n == Int.ofNat m))) (.bool v)).ok Tryz.prog := by
  rw [Qst.ok, beqN, h]
theorem z3_ok {n w : Nat} {b0 b1 : Bool} (hn : n ≠ 0) (h0 : (w % 3 == 0) = b0) (h1 : b0 = false → (w % 3 == 1) = b1) : Qsts Tryz.prog (z3Q n w (w % 3) b0 b1) := by
  have hn' : (n == 0) = false := by simpa using hn
  unfold z3Q
  rw [qsts_app]
  refine ⟨⟨qz hn', rfl, qz h0, trivial⟩, ?_⟩
  cases b0 with
  | true => trivial
  | false => exact ⟨rfl, qz (h1 rfl), trivial⟩
section
variable {thr most K : Nat} {M : PM} {FL : List Nat} {th : Nat → Th} {G G0 : List RefP} {H : HS} {s : AS} {w : Nat → Nat} {C : Nat → List (Nat × AObj)} {ψ : Nat → Nat → Nat} {tb : Nat} {hb : Nat → Nat} {hv : Nat → AV} {Ks : List Nat} {k : Nat}
def BegOk (thr most : Nat) (M : PM) (th : Nat → Th) (G : List RefP) (H : HS) (s : AS) (w : Nat → Nat) (ψ : Nat → Nat → Nat) (tb : Nat) (hb : Nat → Nat) (hv : Nat → AV) (Ks : List Nat) (k x : Nat) : Prop :=
  ∃ (s' : AS) (C' : Nat → List (Nat × AObj)) (ψ' : Nat → Nat → Nat) (b' : Nat) (v' : AV), Sound Tryz.prog (.call 12 [.ptr tb (9 * k), .int .u8 (Int.ofNat x)] s) ⟨.ret, [.tuple []], s'⟩ ∧
    LayL thr most M (tunT th k (beginT x (th k))) G H s' w C' ψ' tb (tun hb k b') (tun hv k v') Ks ∧ (∀ c ∈ Ks, c ≠ tb → c ≠ hb k → s'.get c = s.get c) ∧ s.nx ≤ s'.nx ∧ b' = hb k ∧ ψ' 3 = ψ 3
theorem be_fin {x : Nat} {s3 : AS} {C' : Nat → List (Nat × AObj)} {ψ' : Nat → Nat → Nat} {b' : Nat} {v' : AV} (hx : ∃ ts', Sound Tryz.prog (.code (cOf 12) (bT tb (9 * k) x) (ent s)) ⟨.normal, ts', s3⟩)
    (L : LayL thr most M (tunT th k (beginT x (th k))) G H s3 w C' ψ' tb (tun hb k b') (tun hv k v') Ks) (ho : ∀ c ∈ Ks, c ≠ tb → c ≠ hb k → s3.get c = s.get c) (hn : s.nx ≤ s3.nx) (hbb : b' = hb k) (h3 : ψ' 3 = ψ 3 := by exact tun_ne _ _ (by omega)) : BegOk thr most M th G H s w ψ tb hb hv Ks k x := by
  obtain ⟨ts', hC⟩ := hx
  obtain ⟨s2, e1, e2, hF⟩ := be_call (s := s) hC (.inl rfl)
  have g : ∀ c, s2.get c = s3.get c := fun c => by show getB _ _ = getB _ _; rw [e1]
  exact ⟨s2, C', ψ', b', v', hF, L.same e1 e2, fun c hc h1 h2 => by rw [g]; exact ho c hc h1 h2, by omega, hbb, h3⟩
theorem begin_at (L : LayL thr most M th G H s w C ψ tb hb hv Ks) (I : Inv most K M FL th G0) (hk : k < 3) (hno : (th k).op = .no) (x : Nat) : BegOk thr most M th G H s w ψ tb hb hv Ks k x := by
  have L0 := L.same (s2 := ent s) rfl rfl
  obtain ⟨R, hR, hRo⟩ := L0.row
  have ra := hRo.a k hk
  have rb := hRo.b k hk
  have rc := hRo.c k hk
  have rf := hRo.f k hk
  have rh := hRo.h k hk
  have rl := hRo.len
  have hq : kd (th k).op = .no := by rw [hno]; rfl
  rw [hq] at ra rb rc rf
  obtain ⟨hbK1, hbK2, hbK3⟩ := L0.hbK k (show k < 4 by omega)
  have hd0 := L0.held k (by omega)
  have er : rsOf th G k = (th k).held := by unfold rsOf; rw [if_pos hk]
  rw [er] at hd0
  obtain ⟨B, C1, hB, hC1, hP⟩ := L0.act k hk
  have hC1 : C1 = [] := by unfold opB at hC1; rw [hno] at hC1; exact hC1
  subst hC1
  have hP : C k = gl k B := hP
  have hz : ∀ r ∈ (th k).held, r.1 < 16 := fun r hr => I.rO k hk r.1 (by
    unfold own
    exact List.mem_append.2 (.inl (List.mem_map.2 ⟨r, hr, rfl⟩)))
  -- an Alloc begins
  have al : ∀ (hT : beginT x (th k) = ⟨(th k).held, (th k).L, .a1 0 0⟩) (hrun : ∀ s1 s2 x', Sound Tryz.prog (.call 33 [] (ent s)) ⟨.ret, [.ptr x' 0], s1⟩ → storeA Tryz.prog s1 50 (.ptr tb (9 * k + 5)) (.ptr x' 0) = some s2 → ∃ ts', Sound Tryz.prog (.code (cOf 12) (bT tb (9 * k) x) (ent s)) ⟨.normal, ts', s2⟩), BegOk thr most M th G H s w ψ tb hb hv Ks k x := fun hT hrun => by
    obtain ⟨s1, π1, v1, c1, ⟨rfl, rfl⟩, a1, a2, a3, a4, a5, _⟩ := par4 L0.par L0.big (show k < 4 by omega) (Q := fun v c => v = .ptr 15 0 ∧ c = bA 1 0 0 ++ gl k B) (keep := [7, 8, 10]) (by
      rw [hP]
      exact SR.of (SF.fl hB (na_step (M := M)) (by decide) (show ∀ b ∈ K4, b ∉ ([] : List Nat) by decide)) (by decide) ⟨rfl, rfl⟩) (by decide) (by decide)
    have a1 : Sound Tryz.prog (.call 33 [] (ent s)) ⟨.ret, [.ptr (π1 15) 0], s1⟩ := a1
    have hR1 : s1.get tb = some (.cells false R) := by rw [a3 tb L0.tbK.1]; exact hR
    obtain ⟨s2, d1', d2', d3'⟩ := st_one (P := Tryz.prog) (v := .ptr (π1 15) 0) z5A rfl rfl hR1 (show 9 * k + 5 < R.length by omega)
    obtain ⟨P5, o5, q5⟩ := par4_row a2 L0.tbK d2' d3'
    have ott : ∀ c ∈ Ks, c ≠ tb → c ≠ hb k → s2.get c = s.get c := fun c hc h1 _ => by rw [o5 c h1, a3 c hc]; rfl
    refine be_fin (hrun s1 s2 _ a1 d1') (L0.fin hk (b' := hb k) (v' := hv k) P5 ?_ hRo (q5 _ hR1) (a5 10 (by decide)) (by rw [List.length_set]; exact rl) (fun i hi => set_ot (by omega)) (by rw [set_ot (by omega)]; exact rh) ?_ ?_ ?_ ?_ ?_ (fun c h => h) ott (.inl rfl)) ott (by
      have : (ent s).nx = s.nx := rfl
      omega) rfl
    · rw [hT]
      exact ⟨B, _, hB, rfl, rfl⟩
    · rw [set_at (by omega), hT]; rfl
    · rw [set_ot (by omega), rb, hT]; rfl
    · rw [set_ot (by omega), rc, hT]; rfl
    · rw [set_ot (by omega), rf, hT]; rfl
    · rw [hT]
      exact hd0.same (by rw [o5 _ hbK3, a3 _ hbK1])
  have ldh : loadA Tryz.prog (ent s) 49 (.ptr tb (9 * k + 4)) = some (hv k) := ld_cell g5R hR rh
  cases hh : (th k).held with
  | nil =>
    have hT : beginT x (th k) = ⟨(th k).held, (th k).L, .a1 0 0⟩ := by unfold beginT; rw [hh]
    refine al hT fun s1 s2 x' h1 h2 => ?_
    rw [hh] at hd0
    exact run_E (be_a0 (ent s) s1 s2 tb (9 * k) x 0 x' (hv k)) ⟨ldh, ln_held hd0 _, qz rfl, h1, ⟨h2, rfl⟩, trivial⟩
  | cons r l =>
    obtain ⟨z, g⟩ := r
    have hd1 := hd0
    rw [hh] at hd1
    have lnh := ln_held hd1
    have nz : ((z, g) :: l).length ≠ 0 := by simp
    have hz1 : z < 16 := hz (z, g) (by rw [hh]; exact List.mem_cons_self)
    by_cases w0 : x % 3 = 0
    · have hT : beginT x (th k) = ⟨(th k).held, (th k).L, .a1 0 0⟩ := by unfold beginT; rw [hh]; exact if_pos w0
      refine al hT fun s1 s2 x' h1 h2 => ?_
      exact run_E (be_a1 (ent s) s1 s2 tb (9 * k) x (x % 3) ((z, g) :: l).length x' (hv k)) (qsts_app.2 ⟨⟨ldh, lnh _, trivial⟩, qsts_app.2 ⟨z3_ok nz (by simpa using w0) (fun h => by cases h), h1, ⟨h2, rfl⟩, trivial⟩⟩)
    · have n0 : (x % 3 == 0) = false := by simpa using w0
      obtain ⟨p, ip, lp⟩ := held_at hd1 (i := 0) (by simp)
      obtain ⟨o, Rw, eo, go, do_, no_⟩ := held_cons hd1
      have hp : p = o := by
        rw [eo] at ip
        simp only [indexAddrA, uRf, zR] at ip
        rw [if_pos ⟨by decide, by simp only [Int.ofNat_eq_natCast]; omega⟩] at ip
        have ip := Option.some.inj ip
        have ip : AV.ptr (hb k) (o + 0 * 3) = AV.ptr (hb k) p := ip
        have := AV.ptr.inj ip
        omega
      subst hp
      have ip : indexAddrA Tryz.prog 49 (hv k) (i64 0) = some (.ptr (hb k) p) := ip
      have lp : loadA Tryz.prog (ent s) 74 (.ptr (hb k) p) = some (refA (Int.ofNat z) g) := lp
      have sl : sliceA Tryz.prog 49 (hv k) (some (i64 1)) none none = some (.osl (hb k) (p + 3) l.length 3) := by
        rw [eo]
        have h : boundA (some (i64 1)) 0 (l.length + 1) = some 1 := by
          simp only [boundA, i64]
          rw [if_pos (by omega)]
          rfl
        have bn : ∀ d m : Nat, boundA none d m = some d := fun _ _ => rfl
        simp only [sliceA, uRf, zR, bn, h]
        simp
      have tl : ∀ s', s'.get (hb k) = (ent s).get (hb k) → HeldV s' (.osl (hb k) (p + 3) l.length 3) (hb k) l := fun s' e => by
        refine .inr ⟨p + 3, Rw, rfl, by rw [e]; exact go, ?_, no_⟩
        rw [← List.drop_drop, do_]
        rfl
      by_cases w1 : x % 3 = 1
      · have hT : beginT x (th k) = ⟨l, (th k).L, .rt 1 z g 0 0 0⟩ := by unfold beginT; rw [hh]; exact (if_neg w0).trans (if_pos w1)
        have hg := SF.fr (ng_step (M := M) (k := k) (thr := thr) (most := most) (g := g) hz1) (li_xb hB) (by decide) ⟨rfl, rfl⟩ (by decide) (show ∀ b ∈ ([11, 12, 13] : List Nat), b ≠ 7 ∧ b ≠ 8 ∧ b ∉ ([10] : List Nat) by decide)
        have hg2 := StepF.use hg (b1 := memP M ++ gl k B) (b2 := memP M ++ (rtB thr most 1 (Int.ofNat z) g 0 0 0 ++ gl k B)) (sub_app (fun x hx => hx) fun x hx => hx) (sub_app (fun x hx => hx) fun x hx => by
          simp only [gl, List.mem_append, List.mem_cons] at hx ⊢
          grind)
        obtain ⟨s1, π1, v1, c1, ⟨rfl, rfl⟩, a1, a2, a3, a4, a5, _⟩ := par4 L0.par L0.big (show k < 4 by omega) (Q := fun v c => v = .ptr 18 0 ∧ c = rtB thr most 1 (Int.ofNat z) g 0 0 0 ++ gl k B) (keep := [7, 8, 10]) (by
          rw [hP]
          exact SR.of hg2 (by decide) ⟨rfl, rfl⟩) (by decide) (by decide)
        have a1 : Sound Tryz.prog (.call 34 [envA (ψ k 10) thr most, refA (Int.ofNat z) g] (ent s)) ⟨.ret, [.ptr (π1 18) 0], s1⟩ := a1
        have hR1 : s1.get tb = some (.cells false R) := by rw [a3 tb L0.tbK.1]; exact hR
        obtain ⟨s2, d1, d2, d3⟩ := st_one (P := Tryz.prog) (v := .ptr (π1 18) 0) z5G rfl rfl hR1 (show 9 * k + 7 < R.length by omega)
        obtain ⟨P5, o5, q5⟩ := par4_row a2 L0.tbK d2 d3
        have hR2 := q5 _ hR1
        obtain ⟨s3, f1, f2, f3⟩ := st_one (P := Tryz.prog) (v := .osl (hb k) (p + 3) l.length 3) z5R rfl rfl hR2 (show 9 * k + 4 < (R.set (9 * k + 7) (.ptr (π1 18) 0)).length by rw [List.length_set]; omega)
        obtain ⟨P6, o6, q6⟩ := par4_row P5 L0.tbK f2 f3
        have lh2 : loadA Tryz.prog s2 49 (.ptr tb (9 * k + 4)) = some (hv k) := ld_cell g5R hR2 (by rw [set_ot (by omega)]; exact rh)
        have le := ld_env (s := ent s) hR (hRo.g k hk) (hRo.t k hk) (hRo.n k hk) (hRo.m k hk)
        have hx := run_E (be_g (ent s) s1 s2 s3 tb (9 * k) x (x % 3) ((z, g) :: l).length (π1 18) (hb k) p z g (ψ k 10) thr most (hv k) (.osl (hb k) (p + 3) l.length 3)) (qsts_app.2 ⟨⟨ldh, lnh _, trivial⟩, qsts_app.2 ⟨z3_ok nz n0 (fun _ => by simpa using w1), le, ldh, ip, lp, a1, ⟨d1, rfl⟩, lp, ldh, le, lh2, sl, ⟨f1, rfl⟩, trivial⟩⟩)
        have ott : ∀ c ∈ Ks, c ≠ tb → c ≠ hb k → s3.get c = s.get c := fun c hc h1 _ => by rw [o6 c h1, o5 c h1, a3 c hc]; rfl
        refine be_fin hx (L0.fin hk (b' := hb k) (v' := .osl (hb k) (p + 3) l.length 3) P6 ?_ hRo (q6 _ hR2) (a5 10 (by decide)) (by rw [List.length_set, List.length_set]; exact rl) (fun i hi => by rw [set_ot (by omega), set_ot (by omega)]) (by rw [set_at (by rw [List.length_set]; omega)]) ?_ ?_ ?_ ?_ ?_ (fun c h => h) ott (.inl rfl)) ott (by
          have : (ent s).nx = s.nx := rfl
          omega) rfl
        · rw [hT]
          exact ⟨B, _, hB, rfl, rfl⟩
        · rw [set_ot (by omega), set_ot (by omega), ra, hT]; rfl
        · rw [set_ot (by omega), set_ot (by omega), rb, hT]; rfl
        · rw [set_ot (by omega), set_at (by omega), hT]; rfl
        · rw [set_ot (by omega), set_ot (by omega), rf, hT]; rfl
        · rw [hT]
          exact tl s3 (by rw [o6 _ hbK3, o5 _ hbK3, a3 _ hbK1])
      · have hT : beginT x (th k) = ⟨l, (th k).L, .dr (.f1 z)⟩ := by unfold beginT; rw [hh]; exact (if_neg w0).trans (if_neg w1)
        have hg := SF.fl (k := k) hB (nf_step (M := M) (most := most) hz1) (by decide) (show ∀ b ∈ K4, b ∉ ([] : List Nat) by decide)
        obtain ⟨s1, π1, v1, c1, ⟨rfl, rfl⟩, a1, a2, a3, a4, a5, _⟩ := par4 L0.par L0.big (show k < 4 by omega) (Q := fun v c => v = .ptr 15 0 ∧ c = fH 1 (Int.ofNat z) 0 false most ++ gl k B) (keep := [7, 8, 10]) (by
          rw [hP]
          exact SR.of hg (by decide) ⟨rfl, rfl⟩) (by decide) (by decide)
        have a1 : Sound Tryz.prog (.call 35 [i64 (Int.ofNat z), u32 most] (ent s)) ⟨.ret, [.ptr (π1 15) 0], s1⟩ := a1
        have hR1 : s1.get tb = some (.cells false R) := by rw [a3 tb L0.tbK.1]; exact hR
        obtain ⟨s2, d1, d2, d3⟩ := st_one (P := Tryz.prog) (v := .ptr (π1 15) 0) z5F rfl rfl hR1 (show 9 * k + 8 < R.length by omega)
        obtain ⟨P5, o5, q5⟩ := par4_row a2 L0.tbK d2 d3
        have hR2 := q5 _ hR1
        obtain ⟨s3, f1, f2, f3⟩ := st_one (P := Tryz.prog) (v := .osl (hb k) (p + 3) l.length 3) z5R rfl rfl hR2 (show 9 * k + 4 < (R.set (9 * k + 8) (.ptr (π1 15) 0)).length by rw [List.length_set]; omega)
        obtain ⟨P6, o6, q6⟩ := par4_row P5 L0.tbK f2 f3
        have lh2 : loadA Tryz.prog s2 49 (.ptr tb (9 * k + 4)) = some (hv k) := ld_cell g5R hR2 (by rw [set_ot (by omega)]; exact rh)
        have lm : loadA Tryz.prog (ent s) 41 (.ptr tb (9 * k + 0 + 3)) = some (u32 most) := ld_cell g32 hR (hRo.m k hk)
        have lz : loadA Tryz.prog (ent s) 3 (.ptr (hb k) (p + 0)) = some (i64 (Int.ofNat z)) := ld_cell cI go (by
          have := congrArg (fun l => l[0]?) do_
          simpa using this)
        have hx := run_E (be_f (ent s) s1 s2 s3 tb (9 * k) x (x % 3) ((z, g) :: l).length (π1 15) (hb k) p z most (hv k) (.osl (hb k) (p + 3) l.length 3)) (qsts_app.2 ⟨⟨ldh, lnh _, trivial⟩, qsts_app.2 ⟨z3_ok nz n0 (fun _ => by simpa using w1), ldh, ip, lz, lm, a1, ⟨d1, rfl⟩, lm, lz, ldh, lh2, sl, ⟨f1, rfl⟩, trivial⟩⟩)
        have ott : ∀ c ∈ Ks, c ≠ tb → c ≠ hb k → s3.get c = s.get c := fun c hc h1 _ => by rw [o6 c h1, o5 c h1, a3 c hc]; rfl
        refine be_fin hx (L0.fin hk (b' := hb k) (v' := .osl (hb k) (p + 3) l.length 3) P6 ?_ hRo (q6 _ hR2) (a5 10 (by decide)) (by rw [List.length_set, List.length_set]; exact rl) (fun i hi => by rw [set_ot (by omega), set_ot (by omega)]) (by rw [set_at (by rw [List.length_set]; omega)]) ?_ ?_ ?_ ?_ ?_ (fun c h => h) ott (.inl rfl)) ott (by
          have : (ent s).nx = s.nx := rfl
          omega) rfl
        · rw [hT]
          exact ⟨B, _, hB, rfl, rfl⟩
        · rw [set_ot (by omega), set_ot (by omega), ra, hT]; rfl
        · rw [set_ot (by omega), set_ot (by omega), rb, hT]; rfl
        · rw [set_ot (by omega), set_ot (by omega), rc, hT]; rfl
        · rw [set_ot (by omega), set_at (by omega), hT]; rfl
        · rw [hT]
          exact tl s3 (by rw [o6 _ hbK3, o5 _ hbK3, a3 _ hbK1])
end
end Go.Proofs.YtofbdgmknfbkfaaGreatDoor.nodesLife
namespace Go.Proofs.YtofbdgmknfbkfaaGreatDoor.nodesLife
open Go Go.Mini
/-! ### the law's loops, run in any state -/
def TL (zb m tb sp : Nat) (lV x10 x11 x12 x13 x17 x18 x19 : AV) (j : Nat → AV) : List AV := [lV, j 1, j 2, .ptr zb 0, .bool false, .ptr m 0, j 6, .slice tb 0 3 3, j 8, .ptr sp 0, x10, x11, x12, x13, j 14, j 15, j 16, x17, x18, x19, j 20, j 21, j 22, j 23, j 24, j 25, j 26, j 27, j 28, j 29, j 30, j 31, j 32, j 33, j 34, j 35, j 36, j 37, j 38, j 39, j 40, j 41, j 42, j 43, j 44, j 45, j 46, j 47, j 48, j 49, j 50, j 51, j 52, j 53, j 54, j 55, j 56, j 57, j 58, j 59, j 60, j 61, j 62, j 63, j 64, j 65, j 66, j 67, j 68, j 69, j 70, j 71, j 72, j 73, j 74, j 75, j 76, j 77, j 78, j 79, j 80, j 81, j 82, j 83, j 84, j 85, j 86, j 87, j 88, j 89, j 90, j 91, j 92, j 93, j 94, j 95, j 96, j 97, j 98, j 99, j 100, j 101, j 102, j 103, j 104, j 105, j 106, j 107, j 108, j 109, j 110, j 111, j 112, j 113, j 114, j 115, j 116, j 117, j 118, j 119, j 120, j 121, j 122, j 123, j 124, j 125, j 126, j 127, j 128, j 129, j 130, j 131, j 132, j 133, j 134, j 135, j 136, j 137, j 138, j 139, j 140, j 141, j 142, j 143, j 144, j 145, j 146, j 147, j 148, j 149, j 150, j 151, j 152, j 153, j 154, j 155, j 156, j 157, j 158, j 159, j 160, j 161, j 162, j 163, j 164, j 165, j 166, j 167, j 168, j 169, j 170, j 171, j 172, j 173, j 174, j 175, j 176, j 177, j 178, j 179, j 180, j 181, j 182, j 183, j 184, j 185, j 186, j 187, j 188, j 189, j 190, j 191, j 192, j 193, j 194, j 195, j 196, j 197, j 198, j 199, j 200, j 201, j 202]
noncomputable def rT (f : Nat) (c : Code) (ts : List AV) (s : AS) (ds : List Dec) : Option (AExit × List AV × AS) := (runX Tryz.prog none_ 300 f (.code c ts s) ds).map fun x => (x.1.e, x.1.ts, x.1.s)
noncomputable def rTR (f : Nat) (c : Code) (ts : List AV) (s : AS) (ds : List Dec) (T : (Nat → AV) → List AV) (e : AExit) (s' : AS) : Option (AExit × List AV × AS) := match runX Tryz.prog none_ 300 f (.code c ts s) ds with
  | some x => some (e, T (tget x.1.ts), s')
  | none => some (e, [], s')
noncomputable def rQ (f : Nat) (c : Code) (ts : List AV) (s : AS) (ds : List Dec) : Option (List Qst) := (runX Tryz.prog none_ 300 f (.code c ts s) ds).map fun x => x.2.2
theorem run_TQ {f : Nat} {c : Code} {ts : List AV} {s s' : AS} {ds : List Dec} {T : (Nat → AV) → List AV} {e : AExit} {q : List Qst} (h : rT f c ts s ds = rTR f c ts s ds T e s') (h2 : rQ f c ts s ds = some q) (hq : Qsts Tryz.prog q) : ∃ j, Sound Tryz.prog (.code c ts s) ⟨e, T j, s'⟩ := by
  unfold rT rTR at h
  unfold rQ at h2
  cases hr : runX Tryz.prog none_ 300 f (.code c ts s) ds with
  | none => rw [hr] at h; cases h
  | some x =>
    rw [hr] at h h2
    obtain ⟨⟨e', ts', s1⟩, ds', q'⟩ := x
    simp only [Option.map_some, Option.some.injEq, Prod.mk.injEq] at h h2
    obtain ⟨rfl, h3, rfl⟩ := h
    subst h2
    refine ⟨tget ts', ?_⟩
    rw [← h3]
    exact runX_sound mixed none_sound hr hq
def u16 (n : Nat) : AV := .int .u16 (Int.ofNat n)
noncomputable def c1L : Code := loopAt Tryz.prog 3 1
noncomputable def c2L : Code := loopAt Tryz.prog 3 2
noncomputable def c3L : Code := loopAt Tryz.prog 3 3
noncomputable def c4L : Code := loopAt Tryz.prog 3 4
noncomputable def c5L : Code := loopAt Tryz.prog 3 5
def n_e1D (_ : AS) (_ _ _ _ lb i _ y q1 q2 _ : Nat) (_ _ : AV) (_ : Nat → AV) : List Dec := [.val 3 22 3 (.ptr lb i), .val 3 22 4 (u16 y), .val 3 22 5 (i64 (Int.ofNat y)), .val 3 22 6 (i64 (Int.ofNat q1)), .val 3 22 7 (i64 (Int.ofNat q2)), .val 3 22 8 (.bool false)]
theorem n_e1_t (s : AS) (zb m tb sp lb i n y q1 q2 o : Nat) (lV gv : AV) (j : Nat → AV) : rT 3 c2L (TL zb m tb sp lV gv (i64 (Int.ofNat i)) (.ptr tb o) (i64 (Int.ofNat n)) (j 17) (j 18) (j 19) j) s (n_e1D s zb m tb sp lb i n y q1 q2 o lV gv j) = rTR 3 c2L (TL zb m tb sp lV gv (i64 (Int.ofNat i)) (.ptr tb o) (i64 (Int.ofNat n)) (j 17) (j 18) (j 19) j) s (n_e1D s zb m tb sp lb i n y q1 q2 o lV gv j) (fun j => TL zb m tb sp lV gv (i64 (Int.ofNat i)) (.ptr tb o) (i64 (Int.ofNat n)) (j 17) (j 18) (j 19) j) (.exit 4) s := by kernel_rfl
theorem n_e1_q (s : AS) (zb m tb sp lb i n y q1 q2 o : Nat) (lV gv : AV) (j : Nat → AV) : rQ 3 c2L (TL zb m tb sp lV gv (i64 (Int.ofNat i)) (.ptr tb o) (i64 (Int.ofNat n)) (j 17) (j 18) (j 19) j) s (n_e1D s zb m tb sp lb i n y q1 q2 o lV gv j) = some [.idx 22 lV (.int .i64 (Int.ofNat i)) (.ptr lb i), .ld 59 s (.ptr lb i) (.int .u16 (Int.ofNat y)), .val (some (.int .i64 (IntKind.i64.wrap (Int.ofNat y)))) (.int .i64 (Int.ofNat y)), .val (some (.int .i64 (IntKind.i64.wrap (Int.ofNat (y / 21))))) (.int .i64 (Int.ofNat q1)), .val (some (.int .i64 (Int.ofNat (q1 % 5)))) (.int .i64 (Int.ofNat q2)), .val (some (.bool (decide (Int.ofNat n ≤ Int.ofNat q2)))) (.bool false)] := by kernel_rfl
def n_e2D (s : AS) (_ _ _ _ lb i _ y q1 q2 _ : Nat) (_ _ : AV) (_ : Nat → AV) : List Dec := [.val 3 22 3 (.ptr lb i), .val 3 22 4 (u16 y), .val 3 22 5 (i64 (Int.ofNat y)), .val 3 22 6 (i64 (Int.ofNat q1)), .val 3 22 7 (i64 (Int.ofNat q2)), .val 3 22 8 (.bool true), .call 3 22 11 (.bool true) (fun _ => s)]
theorem n_e2_t (s : AS) (zb m tb sp lb i n y q1 q2 o : Nat) (lV gv : AV) (j : Nat → AV) : rT 3 c2L (TL zb m tb sp lV gv (i64 (Int.ofNat i)) (.ptr tb o) (i64 (Int.ofNat n)) (j 17) (j 18) (j 19) j) s (n_e2D s zb m tb sp lb i n y q1 q2 o lV gv j) = rTR 3 c2L (TL zb m tb sp lV gv (i64 (Int.ofNat i)) (.ptr tb o) (i64 (Int.ofNat n)) (j 17) (j 18) (j 19) j) s (n_e2D s zb m tb sp lb i n y q1 q2 o lV gv j) (fun j => TL zb m tb sp lV gv (i64 (Int.ofNat i)) (.ptr tb o) (i64 (Int.ofNat n)) (j 17) (j 18) (j 19) j) (.exit 4) s := by kernel_rfl
theorem n_e2_q (s : AS) (zb m tb sp lb i n y q1 q2 o : Nat) (lV gv : AV) (j : Nat → AV) : rQ 3 c2L (TL zb m tb sp lV gv (i64 (Int.ofNat i)) (.ptr tb o) (i64 (Int.ofNat n)) (j 17) (j 18) (j 19) j) s (n_e2D s zb m tb sp lb i n y q1 q2 o lV gv j) = some [.idx 22 lV (.int .i64 (Int.ofNat i)) (.ptr lb i), .ld 59 s (.ptr lb i) (.int .u16 (Int.ofNat y)), .val (some (.int .i64 (IntKind.i64.wrap (Int.ofNat y)))) (.int .i64 (Int.ofNat y)), .val (some (.int .i64 (IntKind.i64.wrap (Int.ofNat (y / 21))))) (.int .i64 (Int.ofNat q1)), .val (some (.int .i64 (Int.ofNat (q1 % 5)))) (.int .i64 (Int.ofNat q2)), .val (some (.bool (decide (Int.ofNat n ≤ Int.ofNat q2)))) (.bool true), .snd (.call 11 [.ptr tb o] s) { e := .ret, ts := [.bool true], s := s }] := by kernel_rfl
def n_g1D (s s1 s2 s3 s4 s5 _ : AS) (_ _ _ _ lb i _ n1 y q1 q2 _ was is _ _ _ : Nat) (_ _ gv' v : AV) (kn a0 a1 a2 : Int) (dn : Bool) (_ : Nat → AV) : List Dec := [.val 3 22 3 (.ptr lb i), .val 3 22 4 (u16 y), .val 3 22 5 (i64 (Int.ofNat y)), .val 3 22 6 (i64 (Int.ofNat q1)), .val 3 22 7 (i64 (Int.ofNat q2)), .val 3 22 8 (.bool true), .call 3 22 11 (.bool false) (fun _ => s), .call 3 24 3 (v) (fun _ => s1), .eff 3 24 4 (gv') (fun _ => s2), .call 3 25 1 (acA kn a0 a1 a2 was is dn) (fun _ => s3), .eff 3 25 3 (undefA) (fun _ => s4), .val 3 26 1 (acA kn a0 a1 a2 was is dn), .call 3 26 2 (u8 0) (fun _ => s5), .val 3 28 2 (.int .u8 a0), .val 3 28 3 (.bool false), .val 3 23 1 (i64 (Int.ofNat n1))]
theorem n_g1_t (s s1 s2 s3 s4 s5 s6 : AS) (zb m tb sp lb i n n1 y q1 q2 o was is h g w : Nat) (lV gv gv' v : AV) (kn a0 a1 a2 : Int) (dn : Bool) (j : Nat → AV) : rT 3 c2L (TL zb m tb sp lV gv (i64 (Int.ofNat i)) (.ptr tb o) (i64 (Int.ofNat n)) (j 17) (j 18) (j 19) j) s (n_g1D s s1 s2 s3 s4 s5 s6 zb m tb sp lb i n n1 y q1 q2 o was is h g w lV gv gv' v kn a0 a1 a2 dn j) = rTR 3 c2L (TL zb m tb sp lV gv (i64 (Int.ofNat i)) (.ptr tb o) (i64 (Int.ofNat n)) (j 17) (j 18) (j 19) j) s (n_g1D s s1 s2 s3 s4 s5 s6 zb m tb sp lb i n n1 y q1 q2 o was is h g w lV gv gv' v kn a0 a1 a2 dn j) (fun j => TL zb m tb sp lV gv' (i64 (Int.ofNat i)) (.ptr tb o) (i64 (Int.ofNat n1)) (j 17) (j 18) (j 19) j) (.normal) s5 := by kernel_rfl
theorem n_g1_q (s s1 s2 s3 s4 s5 s6 : AS) (zb m tb sp lb i n n1 y q1 q2 o was is h g w : Nat) (lV gv gv' v : AV) (kn a0 a1 a2 : Int) (dn : Bool) (j : Nat → AV) : rQ 3 c2L (TL zb m tb sp lV gv (i64 (Int.ofNat i)) (.ptr tb o) (i64 (Int.ofNat n)) (j 17) (j 18) (j 19) j) s (n_g1D s s1 s2 s3 s4 s5 s6 zb m tb sp lb i n n1 y q1 q2 o was is h g w lV gv gv' v kn a0 a1 a2 dn j) = some [.idx 22 lV (.int .i64 (Int.ofNat i)) (.ptr lb i), .ld 59 s (.ptr lb i) (.int .u16 (Int.ofNat y)), .val (some (.int .i64 (IntKind.i64.wrap (Int.ofNat y)))) (.int .i64 (Int.ofNat y)), .val (some (.int .i64 (IntKind.i64.wrap (Int.ofNat (y / 21))))) (.int .i64 (Int.ofNat q1)), .val (some (.int .i64 (Int.ofNat (q1 % 5)))) (.int .i64 (Int.ofNat q2)), .val (some (.bool (decide (Int.ofNat n ≤ Int.ofNat q2)))) (.bool true), .snd (.call 11 [.ptr tb o] s) { e := .ret, ts := [.bool false], s := s }, .snd (.call 13 [.ptr tb o, .ptr m 0] s) { e := .ret, ts := [v], s := s1 }, .app s1 49 49 gv v gv' s2, .snd (.call 14 [.ptr m 0] s2) { e := .ret, ts := [.agg [.int .u8 kn, .int .u8 a0, .int .i64 a1, .int .i64 a2, .int .u64 (Int.ofNat was), .int .u64 (Int.ofNat is), .bool dn]], s := s3 }, .sto { h := { bs := (s3.nx, .cells false [.int .u8 (Int.ofNat 0), .int .u8 (Int.ofNat 0), .int .i64 (Int.ofNat 0), .int .i64 (Int.ofNat 0), .int .u64 (Int.ofNat 0), .int .u64 (Int.ofNat 0), .bool false]) :: s3.h.1, len := s3.h.len + 1, esc := s3.h.3, wr := s3.h.4 }, nx := s3.nx + 1 } 64 (.ptr s3.nx 0) (.agg [.int .u8 kn, .int .u8 a0, .int .i64 a1, .int .i64 a2, .int .u64 (Int.ofNat was), .int .u64 (Int.ofNat is), .bool dn]) (.tuple []) s4, .ld 64 s4 (.ptr s3.nx 0) (.agg [.int .u8 kn, .int .u8 a0, .int .i64 a1, .int .i64 a2, .int .u64 (Int.ofNat was), .int .u64 (Int.ofNat is), .bool dn]), .snd (.call 15 [.ptr sp 0, .agg [.int .u8 kn, .int .u8 a0, .int .i64 a1, .int .i64 a2, .int .u64 (Int.ofNat was), .int .u64 (Int.ofNat is), .bool dn]] s4) { e := .ret, ts := [.int .u8 (Int.ofNat 0)], s := s5 }, .ld 36 s5 (.ptr s3.nx 1) (.int .u8 a0), .val (some (.bool (a0 == Int.ofNat 9))) (.bool false), .val (some (.int .i64 (IntKind.i64.wrap (Int.ofNat (n + 1))))) (.int .i64 (Int.ofNat n1))] := by kernel_rfl
def n_g2D (s s1 s2 s3 s4 s5 _ : AS) (_ _ _ _ lb i _ n1 y q1 q2 _ was is _ _ _ : Nat) (_ _ gv' v : AV) (kn a0 a1 a2 : Int) (dn : Bool) (_ : Nat → AV) : List Dec := [.val 3 22 3 (.ptr lb i), .val 3 22 4 (u16 y), .val 3 22 5 (i64 (Int.ofNat y)), .val 3 22 6 (i64 (Int.ofNat q1)), .val 3 22 7 (i64 (Int.ofNat q2)), .val 3 22 8 (.bool true), .call 3 22 11 (.bool false) (fun _ => s), .call 3 24 3 (v) (fun _ => s1), .eff 3 24 4 (gv') (fun _ => s2), .call 3 25 1 (acA kn a0 a1 a2 was is dn) (fun _ => s3), .eff 3 25 3 (undefA) (fun _ => s4), .val 3 26 1 (acA kn a0 a1 a2 was is dn), .call 3 26 2 (u8 0) (fun _ => s5), .val 3 28 2 (.int .u8 a0), .val 3 28 3 (.bool true), .val 3 28 7 (i64 a2), .val 3 28 8 (.bool false), .val 3 23 1 (i64 (Int.ofNat n1))]
theorem n_g2_t (s s1 s2 s3 s4 s5 s6 : AS) (zb m tb sp lb i n n1 y q1 q2 o was is h g w : Nat) (lV gv gv' v : AV) (kn a0 a1 a2 : Int) (dn : Bool) (j : Nat → AV) : rT 3 c2L (TL zb m tb sp lV gv (i64 (Int.ofNat i)) (.ptr tb o) (i64 (Int.ofNat n)) (j 17) (j 18) (j 19) j) s (n_g2D s s1 s2 s3 s4 s5 s6 zb m tb sp lb i n n1 y q1 q2 o was is h g w lV gv gv' v kn a0 a1 a2 dn j) = rTR 3 c2L (TL zb m tb sp lV gv (i64 (Int.ofNat i)) (.ptr tb o) (i64 (Int.ofNat n)) (j 17) (j 18) (j 19) j) s (n_g2D s s1 s2 s3 s4 s5 s6 zb m tb sp lb i n n1 y q1 q2 o was is h g w lV gv gv' v kn a0 a1 a2 dn j) (fun j => TL zb m tb sp lV gv' (i64 (Int.ofNat i)) (.ptr tb o) (i64 (Int.ofNat n1)) (j 17) (j 18) (j 19) j) (.normal) s5 := by kernel_rfl
theorem n_g2_q (s s1 s2 s3 s4 s5 s6 : AS) (zb m tb sp lb i n n1 y q1 q2 o was is h g w : Nat) (lV gv gv' v : AV) (kn a0 a1 a2 : Int) (dn : Bool) (j : Nat → AV) : rQ 3 c2L (TL zb m tb sp lV gv (i64 (Int.ofNat i)) (.ptr tb o) (i64 (Int.ofNat n)) (j 17) (j 18) (j 19) j) s (n_g2D s s1 s2 s3 s4 s5 s6 zb m tb sp lb i n n1 y q1 q2 o was is h g w lV gv gv' v kn a0 a1 a2 dn j) = some [.idx 22 lV (.int .i64 (Int.ofNat i)) (.ptr lb i), .ld 59 s (.ptr lb i) (.int .u16 (Int.ofNat y)), .val (some (.int .i64 (IntKind.i64.wrap (Int.ofNat y)))) (.int .i64 (Int.ofNat y)), .val (some (.int .i64 (IntKind.i64.wrap (Int.ofNat (y / 21))))) (.int .i64 (Int.ofNat q1)), .val (some (.int .i64 (Int.ofNat (q1 % 5)))) (.int .i64 (Int.ofNat q2)), .val (some (.bool (decide (Int.ofNat n ≤ Int.ofNat q2)))) (.bool true), .snd (.call 11 [.ptr tb o] s) { e := .ret, ts := [.bool false], s := s }, .snd (.call 13 [.ptr tb o, .ptr m 0] s) { e := .ret, ts := [v], s := s1 }, .app s1 49 49 gv v gv' s2, .snd (.call 14 [.ptr m 0] s2) { e := .ret, ts := [.agg [.int .u8 kn, .int .u8 a0, .int .i64 a1, .int .i64 a2, .int .u64 (Int.ofNat was), .int .u64 (Int.ofNat is), .bool dn]], s := s3 }, .sto { h := { bs := (s3.nx, .cells false [.int .u8 (Int.ofNat 0), .int .u8 (Int.ofNat 0), .int .i64 (Int.ofNat 0), .int .i64 (Int.ofNat 0), .int .u64 (Int.ofNat 0), .int .u64 (Int.ofNat 0), .bool false]) :: s3.h.1, len := s3.h.len + 1, esc := s3.h.3, wr := s3.h.4 }, nx := s3.nx + 1 } 64 (.ptr s3.nx 0) (.agg [.int .u8 kn, .int .u8 a0, .int .i64 a1, .int .i64 a2, .int .u64 (Int.ofNat was), .int .u64 (Int.ofNat is), .bool dn]) (.tuple []) s4, .ld 64 s4 (.ptr s3.nx 0) (.agg [.int .u8 kn, .int .u8 a0, .int .i64 a1, .int .i64 a2, .int .u64 (Int.ofNat was), .int .u64 (Int.ofNat is), .bool dn]), .snd (.call 15 [.ptr sp 0, .agg [.int .u8 kn, .int .u8 a0, .int .i64 a1, .int .i64 a2, .int .u64 (Int.ofNat was), .int .u64 (Int.ofNat is), .bool dn]] s4) { e := .ret, ts := [.int .u8 (Int.ofNat 0)], s := s5 }, .ld 36 s5 (.ptr s3.nx 1) (.int .u8 a0), .val (some (.bool (a0 == Int.ofNat 9))) (.bool true), .ld 3 s5 (.ptr s3.nx 3) (.int .i64 a2), .val (some (.bool (a2 == Int.ofNat 0))) (.bool false), .val (some (.int .i64 (IntKind.i64.wrap (Int.ofNat (n + 1))))) (.int .i64 (Int.ofNat n1))] := by kernel_rfl
def n_g3D (s s1 s2 s3 s4 s5 s6 : AS) (_ _ _ _ lb i _ n1 y q1 q2 _ was is h g w : Nat) (_ _ gv' v : AV) (kn a0 a1 a2 : Int) (dn : Bool) (_ : Nat → AV) : List Dec := [.val 3 22 3 (.ptr lb i), .val 3 22 4 (u16 y), .val 3 22 5 (i64 (Int.ofNat y)), .val 3 22 6 (i64 (Int.ofNat q1)), .val 3 22 7 (i64 (Int.ofNat q2)), .val 3 22 8 (.bool true), .call 3 22 11 (.bool false) (fun _ => s), .call 3 24 3 (v) (fun _ => s1), .eff 3 24 4 (gv') (fun _ => s2), .call 3 25 1 (acA kn a0 a1 a2 was is dn) (fun _ => s3), .eff 3 25 3 (undefA) (fun _ => s4), .val 3 26 1 (acA kn a0 a1 a2 was is dn), .call 3 26 2 (u8 0) (fun _ => s5), .val 3 28 2 (.int .u8 a0), .val 3 28 3 (.bool true), .val 3 28 7 (i64 a2), .val 3 28 8 (.bool true), .val 3 29 3 (i64 a1), .call 3 29 4 (.tuple [u8 h, u32 g]) (fun _ => s6), .skip 3 30 999, .val 3 30 4 (u64 is), .call 3 30 2 (u64 w) (fun _ => s6), .val 3 30 5 (.bool false), .val 3 23 1 (i64 (Int.ofNat n1))]
theorem n_g3_t (s s1 s2 s3 s4 s5 s6 : AS) (zb m tb sp lb i n n1 y q1 q2 o was is h g w : Nat) (lV gv gv' v : AV) (kn a0 a1 a2 : Int) (dn : Bool) (j : Nat → AV) : rT 3 c2L (TL zb m tb sp lV gv (i64 (Int.ofNat i)) (.ptr tb o) (i64 (Int.ofNat n)) (j 17) (j 18) (j 19) j) s (n_g3D s s1 s2 s3 s4 s5 s6 zb m tb sp lb i n n1 y q1 q2 o was is h g w lV gv gv' v kn a0 a1 a2 dn j) = rTR 3 c2L (TL zb m tb sp lV gv (i64 (Int.ofNat i)) (.ptr tb o) (i64 (Int.ofNat n)) (j 17) (j 18) (j 19) j) s (n_g3D s s1 s2 s3 s4 s5 s6 zb m tb sp lb i n n1 y q1 q2 o was is h g w lV gv gv' v kn a0 a1 a2 dn j) (fun j => TL zb m tb sp lV gv' (i64 (Int.ofNat i)) (.ptr tb o) (i64 (Int.ofNat n1)) (j 17) (j 18) (j 19) j) (.normal) s6 := by kernel_rfl
theorem n_g3_q (s s1 s2 s3 s4 s5 s6 : AS) (zb m tb sp lb i n n1 y q1 q2 o was is h g w : Nat) (lV gv gv' v : AV) (kn a0 a1 a2 : Int) (dn : Bool) (j : Nat → AV) : rQ 3 c2L (TL zb m tb sp lV gv (i64 (Int.ofNat i)) (.ptr tb o) (i64 (Int.ofNat n)) (j 17) (j 18) (j 19) j) s (n_g3D s s1 s2 s3 s4 s5 s6 zb m tb sp lb i n n1 y q1 q2 o was is h g w lV gv gv' v kn a0 a1 a2 dn j) = some [.idx 22 lV (.int .i64 (Int.ofNat i)) (.ptr lb i), .ld 59 s (.ptr lb i) (.int .u16 (Int.ofNat y)), .val (some (.int .i64 (IntKind.i64.wrap (Int.ofNat y)))) (.int .i64 (Int.ofNat y)), .val (some (.int .i64 (IntKind.i64.wrap (Int.ofNat (y / 21))))) (.int .i64 (Int.ofNat q1)), .val (some (.int .i64 (Int.ofNat (q1 % 5)))) (.int .i64 (Int.ofNat q2)), .val (some (.bool (decide (Int.ofNat n ≤ Int.ofNat q2)))) (.bool true), .snd (.call 11 [.ptr tb o] s) { e := .ret, ts := [.bool false], s := s }, .snd (.call 13 [.ptr tb o, .ptr m 0] s) { e := .ret, ts := [v], s := s1 }, .app s1 49 49 gv v gv' s2, .snd (.call 14 [.ptr m 0] s2) { e := .ret, ts := [.agg [.int .u8 kn, .int .u8 a0, .int .i64 a1, .int .i64 a2, .int .u64 (Int.ofNat was), .int .u64 (Int.ofNat is), .bool dn]], s := s3 }, .sto { h := { bs := (s3.nx, .cells false [.int .u8 (Int.ofNat 0), .int .u8 (Int.ofNat 0), .int .i64 (Int.ofNat 0), .int .i64 (Int.ofNat 0), .int .u64 (Int.ofNat 0), .int .u64 (Int.ofNat 0), .bool false]) :: s3.h.1, len := s3.h.len + 1, esc := s3.h.3, wr := s3.h.4 }, nx := s3.nx + 1 } 64 (.ptr s3.nx 0) (.agg [.int .u8 kn, .int .u8 a0, .int .i64 a1, .int .i64 a2, .int .u64 (Int.ofNat was), .int .u64 (Int.ofNat is), .bool dn]) (.tuple []) s4, .ld 64 s4 (.ptr s3.nx 0) (.agg [.int .u8 kn, .int .u8 a0, .int .i64 a1, .int .i64 a2, .int .u64 (Int.ofNat was), .int .u64 (Int.ofNat is), .bool dn]), .snd (.call 15 [.ptr sp 0, .agg [.int .u8 kn, .int .u8 a0, .int .i64 a1, .int .i64 a2, .int .u64 (Int.ofNat was), .int .u64 (Int.ofNat is), .bool dn]] s4) { e := .ret, ts := [.int .u8 (Int.ofNat 0)], s := s5 }, .ld 36 s5 (.ptr s3.nx 1) (.int .u8 a0), .val (some (.bool (a0 == Int.ofNat 9))) (.bool true), .ld 3 s5 (.ptr s3.nx 3) (.int .i64 a2), .val (some (.bool (a2 == Int.ofNat 0))) (.bool true), .ld 3 s5 (.ptr s3.nx 2) (.int .i64 a1), .snd (.call 16 [.ptr sp 0, .int .i64 a1] s5) { e := .ret, ts := [.tuple [.int .u8 (Int.ofNat h), .int .u32 (Int.ofNat g)]], s := s6 }, .ld 31 s6 (.ptr s3.nx 5) (.int .u64 (Int.ofNat is)), .snd (.call 17 [.int .u8 (Int.ofNat h), .int .u32 (Int.ofNat g)] s6) { e := .ret, ts := [.int .u64 (Int.ofNat w)], s := s6 }, .val (some (.bool (Int.ofNat w != Int.ofNat is))) (.bool false), .ld 31 s6 (.ptr s3.nx 5) (.int .u64 (Int.ofNat is)), .val (some (.bool (Int.ofNat w != Int.ofNat is))) (.bool false), .ld 31 s6 (.ptr s3.nx 5) (.int .u64 (Int.ofNat is)), .val (some (.int .i64 (IntKind.i64.wrap (Int.ofNat (n + 1))))) (.int .i64 (Int.ofNat n1))] := by kernel_rfl
def k_eD (_ _ : AS) (_ _ _ _ _ _ _ _ _ n _ _ _ : Nat) (_ _ hv : AV) (_ : Nat → AV) : List Dec := [.val 3 33 4 (hv), .val 3 33 5 (i64 (Int.ofNat n)), .val 3 33 6 (.bool false)]
theorem k_e_t (s s1 : AS) (zb m tb sp hb p i k k1 n z g o : Nat) (lV gv hv : AV) (j : Nat → AV) : rT 3 c3L (TL zb m tb sp lV gv (i64 (Int.ofNat i)) (.ptr tb o) (j 13) (i64 (Int.ofNat k)) (j 18) (j 19) j) s (k_eD s s1 zb m tb sp hb p i k k1 n z g o lV gv hv j) = rTR 3 c3L (TL zb m tb sp lV gv (i64 (Int.ofNat i)) (.ptr tb o) (j 13) (i64 (Int.ofNat k)) (j 18) (j 19) j) s (k_eD s s1 zb m tb sp hb p i k k1 n z g o lV gv hv j) (fun j => TL zb m tb sp lV gv (i64 (Int.ofNat i)) (.ptr tb o) (j 13) (i64 (Int.ofNat k)) (j 18) (j 19) j) (.exit 6) s := by kernel_rfl
theorem k_e_q (s s1 : AS) (zb m tb sp hb p i k k1 n z g o : Nat) (lV gv hv : AV) (j : Nat → AV) : rQ 3 c3L (TL zb m tb sp lV gv (i64 (Int.ofNat i)) (.ptr tb o) (j 13) (i64 (Int.ofNat k)) (j 18) (j 19) j) s (k_eD s s1 zb m tb sp hb p i k k1 n z g o lV gv hv j) = some [.ld 49 s (.ptr tb (o + 4)) hv, .ln 49 s hv (.int .i64 (Int.ofNat n)), .val (some (.bool (decide (Int.ofNat k < Int.ofNat n)))) (.bool false)] := by kernel_rfl
def k_gD (_ s1 : AS) (_ _ _ _ hb p _ _ k1 n z g _ : Nat) (_ _ hv : AV) (_ : Nat → AV) : List Dec := [.val 3 33 4 (hv), .val 3 33 5 (i64 (Int.ofNat n)), .val 3 33 6 (.bool true), .val 3 35 4 (hv), .val 3 35 6 (.ptr hb p), .val 3 35 7 (refA (Int.ofNat z) g), .call 3 35 8 (.bool true) (fun _ => s1), .val 3 34 1 (i64 (Int.ofNat k1))]
theorem k_g_t (s s1 : AS) (zb m tb sp hb p i k k1 n z g o : Nat) (lV gv hv : AV) (j : Nat → AV) : rT 3 c3L (TL zb m tb sp lV gv (i64 (Int.ofNat i)) (.ptr tb o) (j 13) (i64 (Int.ofNat k)) (j 18) (j 19) j) s (k_gD s s1 zb m tb sp hb p i k k1 n z g o lV gv hv j) = rTR 3 c3L (TL zb m tb sp lV gv (i64 (Int.ofNat i)) (.ptr tb o) (j 13) (i64 (Int.ofNat k)) (j 18) (j 19) j) s (k_gD s s1 zb m tb sp hb p i k k1 n z g o lV gv hv j) (fun j => TL zb m tb sp lV gv (i64 (Int.ofNat i)) (.ptr tb o) (j 13) (i64 (Int.ofNat k1)) (j 18) (j 19) j) (.normal) s1 := by kernel_rfl
theorem k_g_q (s s1 : AS) (zb m tb sp hb p i k k1 n z g o : Nat) (lV gv hv : AV) (j : Nat → AV) : rQ 3 c3L (TL zb m tb sp lV gv (i64 (Int.ofNat i)) (.ptr tb o) (j 13) (i64 (Int.ofNat k)) (j 18) (j 19) j) s (k_gD s s1 zb m tb sp hb p i k k1 n z g o lV gv hv j) = some [.ld 49 s (.ptr tb (o + 4)) hv, .ln 49 s hv (.int .i64 (Int.ofNat n)), .val (some (.bool (decide (Int.ofNat k < Int.ofNat n)))) (.bool true), .ld 49 s (.ptr tb (o + 4)) hv, .idx 49 hv (.int .i64 (Int.ofNat k)) (.ptr hb p), .ld 74 s (.ptr hb p) (.agg [.int .i64 (Int.ofNat z), .int .u32 (Int.ofNat g), .bool false]), .snd (.call 18 [.ptr sp 0, .agg [.int .i64 (Int.ofNat z), .int .u32 (Int.ofNat g), .bool false]] s) { e := .ret, ts := [.bool true], s := s1 }, .val (some (.int .i64 (IntKind.i64.wrap (Int.ofNat (k + 1))))) (.int .i64 (Int.ofNat k1))] := by kernel_rfl
def g_eD (_ _ : AS) (_ _ _ _ _ _ _ _ n _ _ : Nat) (_ _ : AV) (_ : Nat → AV) : List Dec := [.val 3 38 2 (i64 (Int.ofNat n)), .val 3 38 3 (.bool false)]
theorem g_e_t (s s1 : AS) (zb m tb sp hb p k k1 n z g : Nat) (lV gv : AV) (j : Nat → AV) : rT 3 c4L (TL zb m tb sp lV gv (j 11) (j 12) (j 13) (j 17) (i64 (Int.ofNat k)) (j 19) j) s (g_eD s s1 zb m tb sp hb p k k1 n z g lV gv j) = rTR 3 c4L (TL zb m tb sp lV gv (j 11) (j 12) (j 13) (j 17) (i64 (Int.ofNat k)) (j 19) j) s (g_eD s s1 zb m tb sp hb p k k1 n z g lV gv j) (fun j => TL zb m tb sp lV gv (j 11) (j 12) (j 13) (j 17) (i64 (Int.ofNat k)) (j 19) j) (.exit 8) s := by kernel_rfl
theorem g_e_q (s s1 : AS) (zb m tb sp hb p k k1 n z g : Nat) (lV gv : AV) (j : Nat → AV) : rQ 3 c4L (TL zb m tb sp lV gv (j 11) (j 12) (j 13) (j 17) (i64 (Int.ofNat k)) (j 19) j) s (g_eD s s1 zb m tb sp hb p k k1 n z g lV gv j) = some [.ln 49 s gv (.int .i64 (Int.ofNat n)), .val (some (.bool (decide (Int.ofNat k < Int.ofNat n)))) (.bool false)] := by kernel_rfl
def g_gD (_ s1 : AS) (_ _ _ _ hb p _ k1 n z g : Nat) (_ _ : AV) (_ : Nat → AV) : List Dec := [.val 3 38 2 (i64 (Int.ofNat n)), .val 3 38 3 (.bool true), .val 3 40 3 (.ptr hb p), .val 3 40 4 (refA (Int.ofNat z) g), .call 3 40 5 (.bool false) (fun _ => s1), .val 3 39 1 (i64 (Int.ofNat k1))]
theorem g_g_t (s s1 : AS) (zb m tb sp hb p k k1 n z g : Nat) (lV gv : AV) (j : Nat → AV) : rT 3 c4L (TL zb m tb sp lV gv (j 11) (j 12) (j 13) (j 17) (i64 (Int.ofNat k)) (j 19) j) s (g_gD s s1 zb m tb sp hb p k k1 n z g lV gv j) = rTR 3 c4L (TL zb m tb sp lV gv (j 11) (j 12) (j 13) (j 17) (i64 (Int.ofNat k)) (j 19) j) s (g_gD s s1 zb m tb sp hb p k k1 n z g lV gv j) (fun j => TL zb m tb sp lV gv (j 11) (j 12) (j 13) (j 17) (i64 (Int.ofNat k1)) (j 19) j) (.normal) s1 := by kernel_rfl
theorem g_g_q (s s1 : AS) (zb m tb sp hb p k k1 n z g : Nat) (lV gv : AV) (j : Nat → AV) : rQ 3 c4L (TL zb m tb sp lV gv (j 11) (j 12) (j 13) (j 17) (i64 (Int.ofNat k)) (j 19) j) s (g_gD s s1 zb m tb sp hb p k k1 n z g lV gv j) = some [.ln 49 s gv (.int .i64 (Int.ofNat n)), .val (some (.bool (decide (Int.ofNat k < Int.ofNat n)))) (.bool true), .idx 49 gv (.int .i64 (Int.ofNat k)) (.ptr hb p), .ld 74 s (.ptr hb p) (.agg [.int .i64 (Int.ofNat z), .int .u32 (Int.ofNat g), .bool false]), .snd (.call 18 [.ptr sp 0, .agg [.int .i64 (Int.ofNat z), .int .u32 (Int.ofNat g), .bool false]] s) { e := .ret, ts := [.bool false], s := s1 }, .val (some (.int .i64 (IntKind.i64.wrap (Int.ofNat (k + 1))))) (.int .i64 (Int.ofNat k1))] := by kernel_rfl
def z_eD (_ _ _ : AS) (_ _ _ _ _ _ _ _ : Nat) (_ _ : AV) (_ : Nat → AV) : List Dec := [.val 3 43 1 (.bool false)]
theorem z_e_t (s s1 s2 : AS) (zb m tb sp k k1 h g : Nat) (lV gv : AV) (j : Nat → AV) : rT 3 c5L (TL zb m tb sp lV gv (j 11) (j 12) (j 13) (j 17) (j 18) (i64 (Int.ofNat k)) j) s (z_eD s s1 s2 zb m tb sp k k1 h g lV gv j) = rTR 3 c5L (TL zb m tb sp lV gv (j 11) (j 12) (j 13) (j 17) (j 18) (i64 (Int.ofNat k)) j) s (z_eD s s1 s2 zb m tb sp k k1 h g lV gv j) (fun j => TL zb m tb sp lV gv (j 11) (j 12) (j 13) (j 17) (j 18) (i64 (Int.ofNat k)) j) (.exit 10) s := by kernel_rfl
theorem z_e_q (s s1 s2 : AS) (zb m tb sp k k1 h g : Nat) (lV gv : AV) (j : Nat → AV) : rQ 3 c5L (TL zb m tb sp lV gv (j 11) (j 12) (j 13) (j 17) (j 18) (i64 (Int.ofNat k)) j) s (z_eD s s1 s2 zb m tb sp k k1 h g lV gv j) = some [.val (some (.bool (decide (Int.ofNat k < 16)))) (.bool false)] := by kernel_rfl
def z_gD (_ s1 s2 : AS) (_ _ _ _ _ k1 h g : Nat) (_ _ : AV) (_ : Nat → AV) : List Dec := [.val 3 43 1 (.bool true), .call 3 45 2 (.tuple [u8 h, u32 g]) (fun _ => s1), .call 3 46 2 (.tuple [u8 h, u32 g]) (fun _ => s2), .val 3 47 2 (.bool false), .val 3 47 6 (.bool false), .val 3 44 1 (i64 (Int.ofNat k1))]
theorem z_g_t (s s1 s2 : AS) (zb m tb sp k k1 h g : Nat) (lV gv : AV) (j : Nat → AV) : rT 3 c5L (TL zb m tb sp lV gv (j 11) (j 12) (j 13) (j 17) (j 18) (i64 (Int.ofNat k)) j) s (z_gD s s1 s2 zb m tb sp k k1 h g lV gv j) = rTR 3 c5L (TL zb m tb sp lV gv (j 11) (j 12) (j 13) (j 17) (j 18) (i64 (Int.ofNat k)) j) s (z_gD s s1 s2 zb m tb sp k k1 h g lV gv j) (fun j => TL zb m tb sp lV gv (j 11) (j 12) (j 13) (j 17) (j 18) (i64 (Int.ofNat k1)) j) (.normal) s2 := by kernel_rfl
theorem z_g_q (s s1 s2 : AS) (zb m tb sp k k1 h g : Nat) (lV gv : AV) (j : Nat → AV) : rQ 3 c5L (TL zb m tb sp lV gv (j 11) (j 12) (j 13) (j 17) (j 18) (i64 (Int.ofNat k)) j) s (z_gD s s1 s2 zb m tb sp k k1 h g lV gv j) = some [.val (some (.bool (decide (Int.ofNat k < 16)))) (.bool true), .snd (.call 16 [.ptr sp 0, .int .i64 (Int.ofNat k)] s) { e := .ret, ts := [.tuple [.int .u8 (Int.ofNat h), .int .u32 (Int.ofNat g)]], s := s1 }, .snd (.call 19 [.ptr m 0, .int .i64 (Int.ofNat k)] s1) { e := .ret, ts := [.tuple [.int .u8 (Int.ofNat h), .int .u32 (Int.ofNat g)]], s := s2 }, .val (some (.bool (Int.ofNat h != Int.ofNat h))) (.bool false), .val (some (.bool (Int.ofNat g != Int.ofNat g))) (.bool false), .val (some (.int .i64 (IntKind.i64.wrap (Int.ofNat (k + 1))))) (.int .i64 (Int.ofNat k1))] := by kernel_rfl
def o_eD (_ : AS) (_ _ _ _ _ n : Nat) (_ _ : AV) (_ : Nat → AV) : List Dec := [.val 3 16 2 (i64 (Int.ofNat n)), .val 3 16 3 (.bool false)]
theorem o_e_t (s : AS) (zb m tb sp i n : Nat) (lV gv : AV) (j : Nat → AV) : rT 3 c1L (TL zb m tb sp lV gv (i64 (Int.ofNat i)) (j 12) (j 13) (j 17) (j 18) (j 19) j) s (o_eD s zb m tb sp i n lV gv j) = rTR 3 c1L (TL zb m tb sp lV gv (i64 (Int.ofNat i)) (j 12) (j 13) (j 17) (j 18) (j 19) j) s (o_eD s zb m tb sp i n lV gv j) (fun j => TL zb m tb sp lV gv (i64 (Int.ofNat i)) (j 12) (j 13) (j 17) (j 18) (j 19) j) (.exit 2) s := by kernel_rfl
theorem o_e_q (s : AS) (zb m tb sp i n : Nat) (lV gv : AV) (j : Nat → AV) : rQ 3 c1L (TL zb m tb sp lV gv (i64 (Int.ofNat i)) (j 12) (j 13) (j 17) (j 18) (j 19) j) s (o_eD s zb m tb sp i n lV gv j) = some [.ln 22 s lV (.int .i64 (Int.ofNat n)), .val (some (.bool (decide (Int.ofNat i < Int.ofNat n)))) (.bool false)] := by kernel_rfl
end Go.Proofs.YtofbdgmknfbkfaaGreatDoor.nodesLife
namespace Go.Proofs.YtofbdgmknfbkfaaGreatDoor.nodesLife
open Go Go.Mini
/-! ### the shadow's calls, the memory's, where they lie -/
def g_last (M : PM) : GD := ⟨14, [.ptr 7 0], [], [], [], [], acA M.kd M.a.1 M.a.2.1 M.a.2.2 M.was M.is M.dn, [], []⟩
def g_h08 (M M2 : PM) (O : AObj) (z : Int) (h s g : Nat) : GD := ⟨19, [.ptr 7 0, i64 z], [], [], [], [], .tuple [u8 s, u32 g], [.call 19 1 3 (u64 h) (tfL M2), .pure 19 1 4 G (.tuple [u8 s, u32 g])], [mld M O (9, z, 0) h M2, asrQ h s g]⟩
theorem k_last (M : PM) (O : AObj) : GdOk (g_last M) M M O O := ⟨by kernel_rfl, by kernel_rfl⟩
theorem k_h08 (M M2 : PM) (O : AObj) (z : Int) (h s g : Nat) : GdOk (g_h08 M M2 O z h s g) M M2 O O := ⟨by kernel_rfl, by kernel_rfl⟩
theorem sh_xk {most : Nat} {H : HS} {bn : List Nat} {ck : Nat} : XK [10, 11] [10, 11] (shB most H bn ck) := XK.cons rfl rfl (XK.cons rfl (hsO_names _) XK.nil)
section
variable {thr most K : Nat} {M M' : PM} {FL : List Nat} {th : Nat → Th} {G G0 : List RefP} {H H' : HS} {s : AS} {w : Nat → Nat} {C : Nat → List (Nat × AObj)} {ψ : Nat → Nat → Nat} {tb : Nat} {hb : Nat → Nat} {hv : Nat → AV} {Ks : List Nat} {k : Nat}
/-- A call of the shadow's part. -/
theorem sh_do (L : LayL thr most M th G H s w C ψ tb hb hv Ks) {f : FuncId} {args : List AV} {v : AV} (hs : ∀ bn ck, ∃ bn' ck', SF f args v M M' (shB most H bn ck) (shB most H' bn' ck') (kl [])) :
    ∃ (s' : AS) (C' : Nat → List (Nat × AObj)) (π' : Nat → Nat), Sound Tryz.prog (.call f (rens (ψ 3) args) s) ⟨.ret, [v.ren π'], s'⟩ ∧ LayL thr most M' th G H' s' w C' (tun ψ 3 π') tb hb hv Ks ∧ (∀ c ∈ Ks, s'.get c = s.get c) ∧ s.nx ≤ s'.nx ∧ π' 10 = ψ 3 10 := by
  obtain ⟨bn, ck, hC⟩ := L.sh
  obtain ⟨bn', ck', hS⟩ := hs bn ck
  obtain ⟨s1, π1, v1, c1, ⟨rfl, rfl⟩, a1, a2, a3, a4, a5, _⟩ := par4 L.par L.big (show 3 < 4 by decide) (Q := fun v' c => v' = v ∧ c = shB most H' bn' ck') (keep := [7, 8, 10]) (by
    rw [hC]
    exact SR.of hS (by decide) ⟨rfl, rfl⟩) (by decide) (by decide)
  obtain ⟨R, hR, hRo⟩ := L.row
  have nk : ∀ j, j < 3 → tun ψ 3 π1 j = ψ j := fun j hj => tun_ne _ _ (by omega)
  refine ⟨s1, _, π1, a1, ⟨a2, fun j hj => ?_, ⟨bn', ck', tun_same _ _ _⟩, ⟨R, by rw [a3 tb L.tbK.1]; exact hR, ⟨hRo.len, fun j hj => ?_, hRo.t, hRo.n, hRo.m, hRo.h, fun j hj => ?_, fun j hj => ?_, fun j hj => ?_, fun j hj => ?_⟩⟩, fun j hj => (L.held j hj).same (a3 _ (L.hbK j hj).1), L.tbK, L.hbK, L.hbD⟩, a3, a4, a5 10 (by decide)⟩
  · rw [tun_ne _ _ (by omega)]; exact L.act j hj
  · rw [nk j hj]; exact hRo.g j hj
  · rw [nk j hj]; exact hRo.a j hj
  · rw [nk j hj]; exact hRo.b j hj
  · rw [nk j hj]; exact hRo.c j hj
  · rw [nk j hj]; exact hRo.f j hj
theorem sh_fr {f : FuncId} {args : List AV} {v : AV} {bn : List Nat} {ck : Nat} (h : SF f args v M M' [] [] (kl [])) : SF f args v M M' (shB most H bn ck) (shB most H bn ck) (kl []) :=
  SF.fr h sh_xk (by decide) ⟨rfl, rfl⟩ (fun _ h => h) (by decide)
theorem last_at (L : LayL thr most M th G H s w C ψ tb hb hv Ks) : ∃ (s' : AS) (C' : Nat → List (Nat × AObj)) (ψ' : Nat → Nat → Nat), Sound Tryz.prog (.call 14 [.ptr (w 7) 0] s) ⟨.ret, [acA M.kd M.a.1 M.a.2.1 M.a.2.2 M.was M.is M.dn], s'⟩ ∧ LayL thr most M th G H s' w C' ψ' tb hb hv Ks ∧ (∀ c ∈ Ks, s'.get c = s.get c) ∧ s.nx ≤ s'.nx ∧ ψ' 3 10 = ψ 3 10 := by
  obtain ⟨s', C', π', h1, h2, h3, h4, h5⟩ := sh_do (M' := M) (H' := H) L (f := 14) (args := [.ptr 7 0]) (v := acA M.kd M.a.1 M.a.2.1 M.a.2.2 M.was M.is M.dn) (fun bn ck => ⟨bn, ck, sh_fr (stp (k_last M (mapO M.ms)) trivial rfl)⟩)
  have h1 : Sound Tryz.prog (.call 14 [.ptr (ψ 3 7) 0] s) ⟨.ret, [acA M.kd M.a.1 M.a.2.1 M.a.2.2 M.was M.is M.dn], s'⟩ := h1
  rw [par4_w7 L.par (by decide)] at h1
  exact ⟨s', C', _, h1, h2, h3, h4, by rw [tun_same]; exact h5⟩
theorem hdr_at (L : LayL thr most M th G H s w C ψ tb hb hv Ks) (hl : Lt M) (z : Nat) : ∃ (s' : AS) (C' : Nat → List (Nat × AObj)) (ψ' : Nat → Nat → Nat), Sound Tryz.prog (.call 19 [.ptr (w 7) 0, i64 (Int.ofNat z)] s) ⟨.ret, [.tuple [u8 (hs (hdr M z)), u32 (hg (hdr M z))]], s'⟩ ∧ LayL thr most (M.load (aZ z 0)) th G H s' w C' ψ' tb hb hv Ks ∧ (∀ c ∈ Ks, s'.get c = s.get c) ∧ s.nx ≤ s'.nx ∧ ψ' 3 10 = ψ 3 10 := by
  obtain ⟨s', C', π', h1, h2, h3, h4, h5⟩ := sh_do (M' := M.load (aZ z 0)) (H' := H) L (f := 19) (args := [.ptr 7 0, i64 (Int.ofNat z)]) (v := .tuple [u8 (hs (hdr M z)), u32 (hg (hdr M z))]) (fun bn ck => ⟨bn, ck, sh_fr (stp (k_h08 M (M.load (aZ z 0)) (mapO M.ms) (Int.ofNat z) (hdr M z) (hs (hdr M z)) (hg (hdr M z))) (mld_ok (a := aZ z 0) (asr_ok (hl _) trivial)) rfl)⟩)
  have h1 : Sound Tryz.prog (.call 19 [.ptr (ψ 3 7) 0, i64 (Int.ofNat z)] s) ⟨.ret, [.tuple [u8 (hs (hdr M z)), u32 (hg (hdr M z))]], s'⟩ := h1
  rw [par4_w7 L.par (by decide)] at h1
  exact ⟨s', C', _, h1, h2, h3, h4, by rw [tun_same]; exact h5⟩
theorem sa_lt (sa : Sa H M) (hl : Lt M) : ∀ z : Nat, getH H (Int.ofNat z) < 18446744073709551616 := fun z => by rw [sa z]; exact hl _
theorem saw_at (L : LayL thr most M th G H s w C ψ tb hb hv Ks) (hm : most < 4294967296) (hH : ∀ z : Nat, getH H (Int.ofNat z) < 18446744073709551616) {kn : Int} {a : A3} {was is : Nat} {dn : Bool} (hw : was < 18446744073709551616) (hi : is < 18446744073709551616) (hf : a.1 = 9 → 0 ≤ a.2.2 ∧ a.2.2 ≤ 7) (h0 : (sawP most H a was is).2 = 0) :
    ∃ (s' : AS) (C' : Nat → List (Nat × AObj)) (ψ' : Nat → Nat → Nat), Sound Tryz.prog (.call 15 [.ptr (ψ 3 10) 0, acA kn a.1 a.2.1 a.2.2 was is dn] s) ⟨.ret, [u8 0], s'⟩ ∧ LayL thr most M th G (sawP most H a was is).1 s' w C' ψ' tb hb hv Ks ∧ (∀ c ∈ Ks, s'.get c = s.get c) ∧ s.nx ≤ s'.nx ∧ ψ' 3 10 = ψ 3 10 := by
  obtain ⟨s', C', π', h1, h2, h3, h4, h5⟩ := sh_do (M' := M) (H' := (sawP most H a was is).1) L (f := 15) (args := [.ptr 10 0, acA kn a.1 a.2.1 a.2.2 was is dn]) (v := u8 0) (fun bn ck => saw_sf hm hw hi hH hf h0)
  exact ⟨s', C', _, h1, h2, h3, h4, by rw [tun_same]; exact h5⟩
theorem fine_at (L : LayL thr most M th G H s w C ψ tb hb hv Ks) (hH : ∀ z : Nat, getH H (Int.ofNat z) < 18446744073709551616) (z g : Nat) :
    ∃ (s' : AS) (C' : Nat → List (Nat × AObj)) (ψ' : Nat → Nat → Nat), Sound Tryz.prog (.call 18 [.ptr (ψ 3 10) 0, refA (Int.ofNat z) g] s) ⟨.ret, [.bool (fineP H (z, g))], s'⟩ ∧ LayL thr most M th G H s' w C' ψ' tb hb hv Ks ∧ (∀ c ∈ Ks, s'.get c = s.get c) ∧ s.nx ≤ s'.nx ∧ ψ' 3 10 = ψ 3 10 := by
  obtain ⟨s', C', π', h1, h2, h3, h4, h5⟩ := sh_do (M' := M) (H' := H) L (f := 18) (args := [.ptr 10 0, refA (Int.ofNat z) g]) (v := .bool (fineP H (z, g))) (fun bn ck => ⟨bn, ck, fine_sf hH⟩)
  exact ⟨s', C', _, h1, h2, h3, h4, by rw [tun_same]; exact h5⟩
theorem of_at (L : LayL thr most M th G H s w C ψ tb hb hv Ks) (hH : ∀ z : Nat, getH H (Int.ofNat z) < 18446744073709551616) (z : Nat) :
    ∃ (s' : AS) (C' : Nat → List (Nat × AObj)) (ψ' : Nat → Nat → Nat), Sound Tryz.prog (.call 16 [.ptr (ψ 3 10) 0, i64 (Int.ofNat z)] s) ⟨.ret, [.tuple [u8 (hs (getH H (Int.ofNat z))), u32 (hg (getH H (Int.ofNat z)))]], s'⟩ ∧ LayL thr most M th G H s' w C' ψ' tb hb hv Ks ∧ (∀ c ∈ Ks, s'.get c = s.get c) ∧ s.nx ≤ s'.nx ∧ ψ' 3 10 = ψ 3 10 := by
  obtain ⟨s', C', π', h1, h2, h3, h4, h5⟩ := sh_do (M' := M) (H' := H) L (f := 16) (args := [.ptr 10 0, i64 (Int.ofNat z)]) (v := .tuple [u8 (hs (getH H (Int.ofNat z))), u32 (hg (getH H (Int.ofNat z)))]) (fun bn ck => ⟨bn, ck, of_sf hH⟩)
  exact ⟨s', C', _, h1, h2, h3, h4, by rw [tun_same]; exact h5⟩
/-- A new block that nobody minds. -/
theorem LayL.new (L : LayL thr most M th G H s w C ψ tb hb hv Ks) (o : AObj) : LayL thr most M th G H (s.push o) w C ψ tb hb hv (s.nx :: Ks) := by
  obtain ⟨R, hR, hRo⟩ := L.row
  have old : ∀ c ∈ Ks, (s.push o).get c = s.get c := fun c hc => by
    have := (L.par.ks c hc).1
    rw [get_push, if_neg (by omega)]
  exact ⟨par4_new L.par o, L.act, L.sh, ⟨R, by rw [old tb L.tbK.1]; exact hR, hRo⟩, fun j hj => (L.held j hj).same (old _ (L.hbK j hj).1), ⟨List.mem_cons_of_mem _ L.tbK.1, L.tbK.2⟩, fun j hj => ⟨List.mem_cons_of_mem _ (L.hbK j hj).1, (L.hbK j hj).2⟩, L.hbD⟩
/-- A kept block that is no row is turned. -/
theorem LayL.row1 (L : LayL thr most M th G H s w C ψ tb hb hv Ks) {c : Nat} {o : AObj} {s2 : AS} (hk : c ∈ Ks ∧ 2 ≤ c) (ht : c ≠ tb) (hh : ∀ j, j < 4 → c ≠ hb j) (hbs : s2.h.bs = setB s.h.bs c o) (hn : s2.nx = s.nx) : LayL thr most M th G H s2 w C ψ tb hb hv Ks ∧ (∀ d, d ≠ c → s2.get d = s.get d) ∧ (∀ q, s.get c = some q → s2.get c = some o) := by
  obtain ⟨P2, o2, q2⟩ := par4_row L.par hk hbs hn
  obtain ⟨R, hR, hRo⟩ := L.row
  exact ⟨⟨P2, L.act, L.sh, ⟨R, by rw [o2 tb (Ne.symm ht)]; exact hR, hRo⟩, fun j hj => (L.held j hj).same (o2 _ (Ne.symm (hh j hj))), L.tbK, L.hbK, L.hbD⟩, o2, q2⟩
/-- What a scan freed is appended to those that are gone. -/
theorem LayL.gone (L : LayL thr most M th G H s w C ψ tb hb hv Ks) {v : AV} {out : List RefP} (hr : RetV s v out) (hG : G.length < 16000000) : ∃ s2 b' v', appendA Tryz.prog s 49 49 (hv 3) v = some (v', s2) ∧ (b' = hb 3 ∨ s.nx ≤ b') ∧
    ∃ Ks', LayL thr most M th (G ++ out) H s2 w C ψ tb (tun hb 3 b') (tun hv 3 v') Ks' ∧ (∀ c ∈ Ks, c ∈ Ks') ∧ (∀ c ∈ Ks, c ≠ hb 3 → s2.get c = s.get c) ∧ s.nx ≤ s2.nx := by
  have ld := L.held 3 (by decide)
  have e3 : rsOf th G 3 = G := if_neg (by decide)
  rw [e3] at ld
  obtain ⟨R, hR, hRo⟩ := L.row
  obtain ⟨k1, k2, k3⟩ := L.hbK 3 (by decide)
  have lt : ∀ c ∈ Ks, c < s.nx := fun c hc => (L.par.ks c hc).1
  have rsE : ∀ out, ∀ j, j < 3 → rsOf th (G ++ out) j = rsOf th G j := fun out j hj => by
    unfold rsOf
    rw [if_pos hj, if_pos hj]
  rcases hr with ⟨rfl, rfl⟩ | ⟨b, rfl, hbg, h0, h16⟩
  · have ap : appendA Tryz.prog s 49 49 (hv 3) .nilSlice = some (hv 3, s) := by
      obtain ⟨elem, e2, i, z, size, u1, u2, u3, u4, u5, e, u6, u7⟩ := rowT_inv rowR
      have e : 3 = size + 1 := e.symm
      rcases ld with ⟨e1, _⟩ | ⟨o, Rw, e1, _⟩ <;> rw [e1]
      · simp only [appendA, u1, u3, u4, u5, sliceLen, u6, u7, firstA, List.all_nil, Nat.beq_refl, Bool.and_self, Bool.not_true, Bool.false_eq_true, if_false, if_true]
      · rw [e]
        simp only [appendA, u1, u3, u4, u5, sliceLen, u6, u7, firstA, List.all_nil, Nat.beq_refl, Bool.and_self, Bool.not_true, Bool.false_eq_true, if_false, if_true]
    have t1 : tun hb 3 (hb 3) = hb := by funext j; unfold tun; split <;> simp_all
    have t2 : tun hv 3 (hv 3) = hv := by funext j; unfold tun; split <;> simp_all
    refine ⟨s, hb 3, hv 3, ap, .inl rfl, Ks, ?_, fun c h => h, fun c _ _ => rfl, Nat.le_refl _⟩
    rw [t1, t2, List.append_nil]
    exact L
  · obtain ⟨s2, ap, h5⟩ := ld.app hbg rfl (List.length_pos_iff.2 h0) (by omega)
    have n5 : s2.nx = s.nx + 1 := by rcases h5 with rfl | rfl <;> rfl
    have g5 : s2.get s.nx = some (.cells false (refsC (G ++ out))) := by
      rcases h5 with rfl | rfl
      · rw [get_push, if_pos rfl]
      · rw [get_push, if_pos (by rfl)]
    have o5 : ∀ c, c < s.nx → c ≠ hb 3 → s2.get c = s.get c := fun c hc hne => by
      rcases h5 with rfl | rfl
      · rw [get_push, if_neg (by omega)]
      · rw [get_push, if_neg (by show ¬ s.nx = c; omega), get_set_ne hne]
    have P5 : Par4 M w C ψ (s.nx :: Ks) s2 := by
      rcases h5 with rfl | rfl
      · exact par4_new L.par _
      · obtain ⟨P', _, _⟩ := par4_row (s2 := s.set (hb 3) .dead) L.par ⟨k1, k2⟩ rfl rfl
        exact par4_new P' _
    have tlt := lt tb L.tbK.1
    have t2' := L.tbK.2
    refine ⟨s2, s.nx, _, ap, .inr (Nat.le_refl _), s.nx :: Ks, ⟨P5, L.act, L.sh, ⟨R, by rw [o5 tb tlt (fun e => k3 e.symm)]; exact hR, ⟨hRo.len, hRo.g, hRo.t, hRo.n, hRo.m, fun j hj => by rw [tun_ne _ _ (by omega)]; exact hRo.h j hj, hRo.a, hRo.b, hRo.c, hRo.f⟩⟩, fun j hj => ?_, ⟨List.mem_cons_of_mem _ L.tbK.1, t2'⟩, fun j hj => ?_, fun i hi j hj hij => ?_⟩, fun c h => List.mem_cons_of_mem _ h, fun c hc hne => o5 c (lt c hc) hne, by omega⟩
    · by_cases e : j = 3
      · subst e
        rw [tun_same, tun_same, show rsOf th (G ++ out) 3 = G ++ out from if_neg (by decide)]
        exact .inr ⟨0, _, rfl, g5, rfl, refsC_names _ _⟩
      · rw [tun_ne _ _ e, tun_ne _ _ e, rsE out j (by omega)]
        exact (L.held j hj).same (o5 _ (lt _ (L.hbK j hj).1) (L.hbD j hj 3 (by decide) e))
    · by_cases e : j = 3
      · subst e
        rw [tun_same]
        exact ⟨List.mem_cons_self, by omega, by omega⟩
      · rw [tun_ne _ _ e]
        exact ⟨List.mem_cons_of_mem _ (L.hbK j hj).1, (L.hbK j hj).2⟩
    · have nb : ∀ j, j < 4 → s.nx ≠ hb j := fun j hj => by have := lt _ (L.hbK j hj).1; omega
      by_cases e : i = 3
      · subst e
        rw [tun_same, tun_ne _ _ (Ne.symm hij)]
        exact nb j hj
      · rw [tun_ne _ _ e]
        by_cases e2 : j = 3
        · subst e2
          rw [tun_same]
          exact (nb i hi).symm
        · rw [tun_ne _ _ e2]
          exact L.hbD i hi j hj hij
end
end Go.Proofs.YtofbdgmknfbkfaaGreatDoor.nodesLife
