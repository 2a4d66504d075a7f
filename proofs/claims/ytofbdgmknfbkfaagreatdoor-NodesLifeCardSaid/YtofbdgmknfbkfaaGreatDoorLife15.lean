/- The row of actors, and a step of an actor. Conditions: those that each theorem names, and no others. -/
import Derived.Test.YtofbdgmknfbkfaaGreatDoorLife14
namespace Go.Proofs.YtofbdgmknfbkfaaGreatDoor.nodesLife
open Go Go.Mini
/-! ### an actor's step, run in any state -/
def aT (tb o b : Nat) : List AV := [.ptr tb o, .ptr b 0] ++ List.replicate 96 undefA
noncomputable def asR (s : AS) (tb o b : Nat) (ds : List Dec) : Option (AExit × AS × AV × List Qst) := (runX Tryz.prog none_ 80 13 (.code (cOf 13) (aT tb o b) s) ds).map (fun x => (x.1.e, x.1.s, tget x.1.ts 4, x.2.2))
def z3O : AObj := .cells false [i64 0, u32 0, .bool false]
def refO (z : Int) (g : Nat) : AObj := .cells false [i64 z, u32 g, .bool false]
theorem as_aln (s s1 : AS) (tb o b x : Nat) : asR s tb o b [.val 13 1 3 (.ptr x 0), .val 13 2 3 (.ptr x 0), .call 13 2 5 (.bool false) (fun _ => s1)] =
  some (.ret, s1, .nilSlice, [.ld 50 s (.ptr tb (o + 5)) (.ptr x 0), .ld 50 s (.ptr tb (o + 5)) (.ptr x 0), .snd (.call 36 [.ptr x 0, .ptr b 0] s) ⟨.ret, [.bool false], s1⟩]) := by kernel_rfl
theorem as_al0 (s s1 s2 s3 s4 : AS) (tb o b x : Nat) (z : Int) (g : Nat) : asR s tb o b [.val 13 1 3 (.ptr x 0), .val 13 2 3 (.ptr x 0), .call 13 2 5 (.bool true) (fun _ => s1), .val 13 3 3 (.ptr x 0), .call 13 3 4 (.tuple [refA z g, .bool false]) (fun _ => s2), .eff 13 3 9 undefA (fun _ => s3), .eff 13 4 3 undefA (fun _ => s4)] =
  some (.ret, s4, .nilSlice, [.ld 50 s (.ptr tb (o + 5)) (.ptr x 0), .ld 50 s (.ptr tb (o + 5)) (.ptr x 0), .snd (.call 36 [.ptr x 0, .ptr b 0] s) ⟨.ret, [.bool true], s1⟩, .ld 50 s1 (.ptr tb (o + 5)) (.ptr x 0), .snd (.call 37 [.ptr x 0] s1) ⟨.ret, [.tuple [refA z g, .bool false]], s2⟩, .sto (s2.push z3O) 74 (.ptr s2.nx 0) (refA z g) undefA s3, .sto s3 50 (.ptr tb (o + 5)) .nilPtr undefA s4]) := by kernel_rfl
theorem as_al1 (s s1 s2 s3 s4 s5 s6 s7 s8 : AS) (tb o b x y : Nat) (hv hv2 : AV) (z : Int) (g : Nat) : asR s tb o b [.val 13 1 3 (.ptr x 0), .val 13 2 3 (.ptr x 0), .call 13 2 5 (.bool true) (fun _ => s1), .val 13 3 3 (.ptr x 0), .call 13 3 4 (.tuple [refA z g, .bool true]) (fun _ => s2), .eff 13 3 9 undefA (fun _ => s3), .eff 13 4 3 undefA (fun _ => s4), .skip 13 6 999, .val 13 6 4 hv, .val 13 6 5 (refA z g), .eff 13 6 7 hv2 (fun _ => s5), .eff 13 6 10 undefA (fun _ => s6), .val 13 7 1 (refA z g), .call 13 7 2 (.ptr y 0) (fun _ => s7), .eff 13 7 5 undefA (fun _ => s8)] =
  some (.ret, s8, .nilSlice, [.ld 50 s (.ptr tb (o + 5)) (.ptr x 0), .ld 50 s (.ptr tb (o + 5)) (.ptr x 0), .snd (.call 36 [.ptr x 0, .ptr b 0] s) ⟨.ret, [.bool true], s1⟩, .ld 50 s1 (.ptr tb (o + 5)) (.ptr x 0), .snd (.call 37 [.ptr x 0] s1) ⟨.ret, [.tuple [refA z g, .bool true]], s2⟩, .sto (s2.push z3O) 74 (.ptr s2.nx 0) (refA z g) undefA s3, .sto s3 50 (.ptr tb (o + 5)) .nilPtr undefA s4,
    .ld 49 s4 (.ptr tb (o + 4)) hv, .ld 74 s4 (.ptr s2.nx 0) (refA z g), .app (s4.push (refO z g)) 49 49 hv (.slice s4.nx 0 1 1) hv2 s5, .sto s5 49 (.ptr tb (o + 4)) hv2 undefA s6, .ld 74 (s4.push (refO z g)) (.ptr s2.nx 0) (refA z g), .ld 49 (s4.push (refO z g)) (.ptr tb (o + 4)) hv,
    .ld 74 s6 (.ptr s2.nx 0) (refA z g), .snd (.call 21 [refA z g, u64 1, u64 2] s6) ⟨.ret, [.ptr y 0], s7⟩, .sto s7 51 (.ptr tb (o + 6)) (.ptr y 0) undefA s8]) := by kernel_rfl
theorem as_mkn (s s1 : AS) (tb o b x : Nat) : asR s tb o b [.val 13 1 3 .nilPtr, .val 13 8 3 (.ptr x 0), .val 13 9 3 (.ptr x 0), .call 13 9 5 (.bool false) (fun _ => s1)] =
  some (.ret, s1, .nilSlice, [.ld 50 s (.ptr tb (o + 5)) .nilPtr, .ld 51 s (.ptr tb (o + 6)) (.ptr x 0), .ld 51 s (.ptr tb (o + 6)) (.ptr x 0), .snd (.call 22 [.ptr x 0, .ptr b 0] s) ⟨.ret, [.bool false], s1⟩]) := by kernel_rfl
theorem as_mky (s s1 s2 : AS) (tb o b x : Nat) : asR s tb o b [.val 13 1 3 .nilPtr, .val 13 8 3 (.ptr x 0), .val 13 9 3 (.ptr x 0), .call 13 9 5 (.bool true) (fun _ => s1), .eff 13 10 3 undefA (fun _ => s2)] =
  some (.ret, s2, .nilSlice, [.ld 50 s (.ptr tb (o + 5)) .nilPtr, .ld 51 s (.ptr tb (o + 6)) (.ptr x 0), .ld 51 s (.ptr tb (o + 6)) (.ptr x 0), .snd (.call 22 [.ptr x 0, .ptr b 0] s) ⟨.ret, [.bool true], s1⟩, .sto s1 51 (.ptr tb (o + 6)) .nilPtr undefA s2]) := by kernel_rfl
theorem as_gon (s s1 : AS) (tb o b x : Nat) : asR s tb o b [.val 13 1 3 .nilPtr, .val 13 8 3 .nilPtr, .val 13 11 3 (.ptr x 0), .val 13 12 3 (.ptr x 0), .call 13 12 5 (.bool false) (fun _ => s1)] =
  some (.ret, s1, .nilSlice, [.ld 50 s (.ptr tb (o + 5)) .nilPtr, .ld 51 s (.ptr tb (o + 6)) .nilPtr, .ld 52 s (.ptr tb (o + 7)) (.ptr x 0), .ld 52 s (.ptr tb (o + 7)) (.ptr x 0), .snd (.call 38 [.ptr x 0, .ptr b 0] s) ⟨.ret, [.bool false], s1⟩]) := by kernel_rfl
theorem as_goy (s s1 s2 s3 : AS) (tb o b x : Nat) (v : AV) : asR s tb o b [.val 13 1 3 .nilPtr, .val 13 8 3 .nilPtr, .val 13 11 3 (.ptr x 0), .val 13 12 3 (.ptr x 0), .call 13 12 5 (.bool true) (fun _ => s1), .val 13 13 3 (.ptr x 0), .call 13 13 4 v (fun _ => s2), .eff 13 14 3 undefA (fun _ => s3)] =
  some (.ret, s3, v, [.ld 50 s (.ptr tb (o + 5)) .nilPtr, .ld 51 s (.ptr tb (o + 6)) .nilPtr, .ld 52 s (.ptr tb (o + 7)) (.ptr x 0), .ld 52 s (.ptr tb (o + 7)) (.ptr x 0), .snd (.call 38 [.ptr x 0, .ptr b 0] s) ⟨.ret, [.bool true], s1⟩, .ld 52 s1 (.ptr tb (o + 7)) (.ptr x 0), .snd (.call 39 [.ptr x 0] s1) ⟨.ret, [v], s2⟩, .sto s2 52 (.ptr tb (o + 7)) .nilPtr undefA s3]) := by kernel_rfl
theorem as_frn (s s1 : AS) (tb o b x : Nat) : asR s tb o b [.val 13 1 3 .nilPtr, .val 13 8 3 .nilPtr, .val 13 11 3 .nilPtr, .val 13 16 3 (.ptr x 0), .val 13 17 3 (.ptr x 0), .call 13 17 5 (.bool false) (fun _ => s1)] =
  some (.ret, s1, .nilSlice, [.ld 50 s (.ptr tb (o + 5)) .nilPtr, .ld 51 s (.ptr tb (o + 6)) .nilPtr, .ld 52 s (.ptr tb (o + 7)) .nilPtr, .ld 53 s (.ptr tb (o + 8)) (.ptr x 0), .ld 53 s (.ptr tb (o + 8)) (.ptr x 0), .snd (.call 40 [.ptr x 0, .ptr b 0] s) ⟨.ret, [.bool false], s1⟩]) := by kernel_rfl
theorem as_fry (s s1 s2 : AS) (tb o b x : Nat) : asR s tb o b [.val 13 1 3 .nilPtr, .val 13 8 3 .nilPtr, .val 13 11 3 .nilPtr, .val 13 16 3 (.ptr x 0), .val 13 17 3 (.ptr x 0), .call 13 17 5 (.bool true) (fun _ => s1), .eff 13 18 3 undefA (fun _ => s2)] =
  some (.ret, s2, .nilSlice, [.ld 50 s (.ptr tb (o + 5)) .nilPtr, .ld 51 s (.ptr tb (o + 6)) .nilPtr, .ld 52 s (.ptr tb (o + 7)) .nilPtr, .ld 53 s (.ptr tb (o + 8)) (.ptr x 0), .ld 53 s (.ptr tb (o + 8)) (.ptr x 0), .snd (.call 40 [.ptr x 0, .ptr b 0] s) ⟨.ret, [.bool true], s1⟩, .sto s1 53 (.ptr tb (o + 8)) .nilPtr undefA s2]) := by kernel_rfl
/-! ### what an actor begins; whether it is idle -/
def bT (tb o w : Nat) : List AV := [.ptr tb o, .int .u8 (Int.ofNat w)] ++ List.replicate 68 undefA
noncomputable def beR (s : AS) (tb o w : Nat) (ds : List Dec) : Option (AExit × AS × List Qst) := (runX Tryz.prog none_ 80 12 (.code (cOf 12) (bT tb o w) s) ds).map (fun x => (x.1.e, x.1.s, x.2.2))
noncomputable def idR (s : AS) (tb o : Nat) (ds : List Dec) : Option (AExit × List AV × AS × List Qst) := (runX Tryz.prog none_ 60 11 (.call 11 [.ptr tb o] s) ds).map (fun x => (x.1.e, x.1.ts, x.1.s, x.2.2))
end Go.Proofs.YtofbdgmknfbkfaaGreatDoor.nodesLife
namespace Go.Mini
open Go Go.RowKit
section
variable {P : Program} {Fz : List (Nat × List AV)}
/-- A step of one part: it may turn what is shared. -/
theorem Par.step2 {N : Nat} {S S2 : List (Nat × AObj)} {w : Nat → Nat} {C : Nat → List (Nat × AObj)} {ψ : Nat → Nat → Nat} {Ks : List Nat} {s : AS} (h : Par P Fz N S w C ψ Ks s) {k : Nat} (hk : k < N) {nx0 : Nat} {c' : List (Nat × AObj)} {κ π' : Nat → Nat} {s' : AS}
    (A' : At P (S2 ++ c') Fz s' π') (Mv : Moved nx0 (S ++ C k) (S2 ++ c') (ψ k) π' κ s s') (hS : S2.map (·.1) = S.map (·.1)) (hκ : ∀ x ∈ S, x.1 < nx0 ∧ κ x.1 = x.1) (hz : ∀ x ∈ Fz, x.1 < P.globals.size) (hd0 : ∀ j, j < N → ∀ x ∈ S, ∀ y ∈ C j, x.1 ≠ y.1) (hSn : ∀ x ∈ S2, x.2.names (fun b => S.any fun y => Nat.beq y.1 b) = true) :
    Par P Fz N S2 w (tun C k c') (tun ψ k π') Ks s' ∧ (∀ c ∈ Ks, s'.get c = s.get c) ∧ s.nx ≤ s'.nx := by
  have mS : ∀ {x : Nat × AObj}, x ∈ S2 → ∃ y ∈ S, y.1 = x.1 := fun {x} hx => by
    have : x.1 ∈ S.map (·.1) := hS ▸ List.mem_map.2 ⟨x, hx, rfl⟩
    obtain ⟨y, hy, e⟩ := List.mem_map.1 this
    exact ⟨y, hy, e⟩
  have lowS : ∀ x ∈ S, π' x.1 = w x.1 := fun x hx => (Mv.low _ (hκ x hx).1 (hκ x hx).2).trans (h.sh k hk x hx)
  have lowS2 : ∀ x ∈ S2, π' x.1 = w x.1 := fun x hx => by
    obtain ⟨y, hy, e⟩ := mS hx
    rw [← e]
    exact lowS y hy
  -- what lies elsewhere stays
  have rest : ∀ c, c < s.nx → (∀ x ∈ S ++ C k, ψ k x.1 ≠ c) → s'.get c = s.get c := fun c hc hd => Mv.rest c hc fun d hd' => by
    obtain ⟨x, hx, rfl⟩ := List.mem_map.1 hd'
    exact hd x hx
  have apart : ∀ j, j < N → j ≠ k → ∀ y ∈ C j, ∀ x ∈ S ++ C k, ψ k x.1 ≠ ψ j y.1 := fun j hj hjk y hy x hx e => by
    rcases List.mem_append.1 hx with hx | hx
    · rw [h.sh k hk x hx, ← h.sh j hj x hx] at e
      exact hd0 j hj x hx y hy ((h.at_ j hj).inj2 (by simp [hx]) (by simp [hy]) e)
    · exact h.dis k hk j hj (Ne.symm hjk) x hx y hy e
  have keepC : ∀ j, j < N → j ≠ k → ∀ y ∈ C j, s'.get (ψ j y.1) = s.get (ψ j y.1) := fun j hj hjk y hy => rest _ ((h.at_ j hj).lt2 (by simp [hy])) (apart j hj hjk y hy)
  have far : ∀ j, j < N → j ≠ k → ∀ x ∈ c', ∀ y ∈ C j, π' x.1 ≠ ψ j y.1 := fun j hj hjk x hx y hy e => by
    have kx : x.1 ∈ (S2 ++ c').map (·.1) := List.mem_map.2 ⟨x, by simp [hx], rfl⟩
    rcases Mv.old x.1 kx with ⟨d, hd1, h1⟩ | h1
    · obtain ⟨z, hz, rfl⟩ := List.mem_map.1 hd1
      exact apart j hj hjk y hy z hz (h1 ▸ e)
    · have := (h.at_ j hj).lt2 (x := y) (by simp [hy])
      omega
  refine ⟨⟨fun j hj => ?_, fun j hj x hx => ?_, fun j hj i hi hji x hx y hy => ?_, fun c hc => ⟨?_, fun j hj x hx => ?_⟩⟩, fun c hc => rest c (h.ks c hc).1 fun x hx => (h.ks c hc).2 k hk x hx, Mv.nx⟩
  · by_cases e : j = k
    · subst e
      rw [tun_same, tun_same]
      exact A'
    · rw [tun_ne _ _ e, tun_ne _ _ e]
      have B := h.at_ j hj
      have sj : ∀ x ∈ S, ψ j x.1 = π' x.1 := fun x hx => (h.sh j hj x hx).trans (lowS x hx).symm
      refine ⟨B.glob, fun x hx => ?_, fun b hb x hx => ?_, fun b hb c hc e2 => ?_, eachX_all fun x hx => ?_, A'.keys⟩
      · obtain ⟨ro, hr⟩ := B.fz x hx
        refine ⟨ro, ?_⟩
        rw [rest _ (B.keys _ (getB_mem hr)) fun y hy e2 => ?_, hr]
        rcases List.mem_append.1 hy with hy | hy
        · rw [h.sh k hk y hy, ← h.sh j hj y hy] at e2
          exact B.out y.1 (List.mem_map.2 ⟨y, by simp [hy], rfl⟩) x hx e2
        · refine (h.at_ k hk).out y.1 (List.mem_map.2 ⟨y, by simp [hy], rfl⟩) x hx ?_
          rw [(h.at_ k hk).glob _ (hz x hx), e2, B.glob _ (hz x hx)]
      · obtain ⟨z, hzm, rfl⟩ := List.mem_map.1 hb
        rcases List.mem_append.1 hzm with hzm | hzm
        · obtain ⟨y, hy, e3⟩ := mS hzm
          rw [← e3]
          exact B.out _ (List.mem_map.2 ⟨y, by simp [hy], rfl⟩) x hx
        · exact B.out _ (List.mem_map.2 ⟨z, by simp [hzm], rfl⟩) x hx
      · obtain ⟨z, hzm, rfl⟩ := List.mem_map.1 hb
        obtain ⟨q, hq, rfl⟩ := List.mem_map.1 hc
        have r : ∀ {z : Nat × AObj}, z ∈ S2 ++ C j → ∃ y ∈ S ++ C j, y.1 = z.1 := fun {z} hzm => by
          rcases List.mem_append.1 hzm with hzm | hzm
          · obtain ⟨y, hy, e3⟩ := mS hzm
            exact ⟨y, by simp [hy], e3⟩
          · exact ⟨z, by simp [hzm], rfl⟩
        obtain ⟨y, hy, e3⟩ := r hzm
        obtain ⟨y2, hy2, e4⟩ := r hq
        rw [← e3, ← e4] at e2 ⊢
        exact B.inj2 hy hy2 e2
      · rcases List.mem_append.1 hx with hx | hx
        · have e5 : ψ j x.1 = π' x.1 := by
            obtain ⟨y, hy, e3⟩ := mS hx
            rw [← e3]
            exact sj y hy
          rw [e5, eachX_mem A'.at_ x (by simp [hx])]
          congr 1
          refine oren_congr (fun b hb => ?_) (hSn x hx)
          obtain ⟨y, hy, e6⟩ := List.any_eq_true.1 hb
          rw [← Nat.eq_of_beq_eq_true e6]
          exact (sj y hy).symm
        · rw [keepC j hj e x hx]
          exact eachX_mem B.at_ x (by simp [hx])
  · by_cases e : j = k
    · subst e
      rw [tun_same]
      exact lowS2 x hx
    · rw [tun_ne _ _ e]
      obtain ⟨y, hy, e3⟩ := mS hx
      rw [← e3]
      exact h.sh j hj y hy
  · by_cases e1 : j = k
    · subst e1
      rw [tun_same] at hx ⊢
      rw [tun_ne _ _ (Ne.symm hji)] at hy ⊢
      exact far i hi (Ne.symm hji) x hx y hy
    · rw [tun_ne _ _ e1] at hx ⊢
      by_cases e2 : i = k
      · subst e2
        rw [tun_same] at hy ⊢
        exact fun e => far j hj e1 y hy x hx e.symm
      · rw [tun_ne _ _ e2] at hy ⊢
        exact h.dis j hj i hi hji x hx y hy
  · have := (h.ks c hc).1
    have := Mv.nx
    omega
  · by_cases e : j = k
    · subst e
      rw [tun_same] at hx ⊢
      intro e
      have kx : x.1 ∈ (S2 ++ c').map (·.1) := List.mem_map.2 ⟨x, hx, rfl⟩
      rcases Mv.old x.1 kx with ⟨d, hd1, h1⟩ | h1
      · obtain ⟨z, hz1, rfl⟩ := List.mem_map.1 hd1
        exact (h.ks c hc).2 j hk z hz1 (h1 ▸ e)
      · have := (h.ks c hc).1
        omega
    · rw [tun_ne _ _ e] at hx ⊢
      rcases List.mem_append.1 hx with hx | hx
      · obtain ⟨y, hy, e3⟩ := mS hx
        rw [← e3]
        exact (h.ks c hc).2 j hj y (by simp [hy])
      · exact (h.ks c hc).2 j hj x (by simp [hx])
/-- Less may be told of a part. -/
theorem Par.subC {N : Nat} {S : List (Nat × AObj)} {w : Nat → Nat} {C : Nat → List (Nat × AObj)} {ψ : Nat → Nat → Nat} {Ks : List Nat} {s : AS} (h : Par P Fz N S w C ψ Ks s) {k : Nat} {c' : List (Nat × AObj)} (hc : ∀ x ∈ c', x ∈ C k) : Par P Fz N S w (tun C k c') ψ Ks s := by
  have hj : ∀ j, ∀ x ∈ tun C k c' j, x ∈ C j := fun j x hx => by
    unfold tun at hx
    split at hx
    · rename_i e
      subst e
      exact hc x hx
    · exact hx
  have hm : ∀ j, ∀ x ∈ S ++ tun C k c' j, x ∈ S ++ C j := fun j x hx => by
    rcases List.mem_append.1 hx with hx | hx
    · exact List.mem_append.2 (.inl hx)
    · exact List.mem_append.2 (.inr (hj j x hx))
  exact ⟨fun j hlt => (h.at_ j hlt).sub (hm j), h.sh, fun j hlt i hi hji x hx y hy => h.dis j hlt i hi hji x (hj j x hx) y (hj i y hy), fun c hc' => ⟨(h.ks c hc').1, fun j hlt x hx => (h.ks c hc').2 j hlt x (hm j x hx)⟩⟩
end
end Go.Mini
namespace Go.Proofs.YtofbdgmknfbkfaaGreatDoor.nodesLife
open Go Go.Mini
/-! ### parts of four: three actors, and the shadow -/
theorem glN2 : Tryz.prog.globals.size = 2 := by kernel_rfl
theorem gz3 : ∀ x ∈ GF, x.1 < Tryz.prog.globals.size := fun x hx => by rw [glN2]; exact (gz x hx).1
section
variable {M M2 : PM} {w : Nat → Nat} {C : Nat → List (Nat × AObj)} {ψ : Nat → Nat → Nat} {Ks : List Nat} {s : AS}
abbrev Par4 (M : PM) (w : Nat → Nat) (C : Nat → List (Nat × AObj)) (ψ : Nat → Nat → Nat) (Ks : List Nat) (s : AS) : Prop := Par Tryz.prog GF 4 (memP M) w C ψ Ks s
def BigC (C : Nat → List (Nat × AObj)) : Prop := ∀ j, j < 4 → ∀ y ∈ C j, 9 ≤ y.1
/-- A call of one part. -/
theorem par4 (h : Par4 M w C ψ Ks s) (hC : BigC C) {k : Nat} (hk : k < 4) {f : FuncId} {args : List AV} {keep : List Nat} {Q : AV → List (Nat × AObj) → Prop} (hs : SR f args M M2 (C k) keep Q) (h7 : 7 ∈ keep) (h8 : 8 ∈ keep) :
    ∃ s' π' v c', Q v c' ∧ Sound Tryz.prog (.call f (rens (ψ k) args) s) ⟨.ret, [v.ren π'], s'⟩ ∧ Par4 M2 w (tun C k c') (tun ψ k π') Ks s' ∧ (∀ c ∈ Ks, s'.get c = s.get c) ∧ s.nx ≤ s'.nx ∧ (∀ b ∈ keep, π' b = ψ k b) ∧ At Tryz.prog (memP M2 ++ c') GF s' π' := by
  obtain ⟨s', π', v, c', κ, hq, hkp, h1, h2, h3⟩ := hs s (ψ k) (h.at_ k hk)
  obtain ⟨a1, a2, a3⟩ := h.step2 hk h2 h3 rfl (fun x hx => by
    simp only [memP, List.mem_cons, List.not_mem_nil, or_false] at hx
    rcases hx with rfl | rfl
    · exact hkp 7 h7
    · exact hkp 8 h8) gz3 (fun j hj x hx y hy => by
    have := hC j hj y hy
    simp only [memP, List.mem_cons, List.not_mem_nil, or_false] at hx
    rcases hx with rfl | rfl
    · show 7 ≠ y.1
      omega
    · show 8 ≠ y.1
      omega) (fun x hx => by
    simp only [memP, List.mem_cons, List.not_mem_nil, or_false] at hx
    rcases hx with rfl | rfl
    · rfl
    · exact mapO_names _ _)
  exact ⟨s', π', v, c', hq, h1, a1, a2, a3, fun b hb => h3.low b (hkp b hb).1 (hkp b hb).2, h2⟩
theorem par4_same (h : Par4 M w C ψ Ks s) {s2 : AS} (hb : s2.h.bs = s.h.bs) (hn : s2.nx = s.nx) : Par4 M w C ψ Ks s2 := h.same gz3 hb hn (h.at_ 0 (by decide)).keys
theorem par4_keys (h : Par4 M w C ψ Ks s) : ∀ k ∈ s.h.bs.map (·.1), k < s.nx := (h.at_ 0 (by decide)).keys
/-- A block that is kept is turned. -/
theorem par4_row (h : Par4 M w C ψ Ks s) {tb : Nat} {o : AObj} {s2 : AS} (hk : tb ∈ Ks ∧ 2 ≤ tb) (hb : s2.h.bs = setB s.h.bs tb o) (hn : s2.nx = s.nx) :
    Par4 M w C ψ Ks s2 ∧ (∀ c, c ≠ tb → s2.get c = s.get c) ∧ (∀ q, s.get tb = some q → s2.get tb = some o) := by
  have g : ∀ c, s2.get c = (s.set tb o).get c := fun c => by show getB _ _ = getB _ _; rw [hb]; rfl
  have k2 : ∀ k ∈ s2.h.bs.map (·.1), k < s2.nx := by rw [hb, hn, set_keys]; exact par4_keys h
  refine ⟨h.outside (X := [tb]) gz3 (fun c _ hc => ?_) (fun c hc => ?_) (by omega) k2, fun c hc => by rw [g, get_set_ne hc], fun q hq => by rw [g, get_set_eq hq]⟩
  · rw [g, get_set_ne (by simpa using hc)]
  · rw [List.mem_singleton.1 hc, glN2]
    exact hk
/-- A new block, kept. -/
theorem par4_new (h : Par4 M w C ψ Ks s) (o : AObj) : Par4 M w C ψ (s.nx :: Ks) (s.push o) := by
  have k1 : ∀ k ∈ (s.push o).h.bs.map (·.1), k < (s.push o).nx := fun k hk => by
    simp only [AS.push, List.map_cons, List.mem_cons] at hk
    rcases hk with rfl | hk
    · exact Nat.lt_succ_self _
    · exact Nat.lt_succ_of_lt (par4_keys h k hk)
  have P1 : Par4 M w C ψ Ks (s.push o) := h.outside (X := []) gz3 (fun c hc _ => by rw [get_push, if_neg (by omega)]) (fun c hc => by cases hc) (Nat.le_succ _) k1
  exact P1.addK (c := s.nx) (n := s.nx) (fun j hj x hx => (h.at_ j hj).lt2 hx) (Nat.le_refl _) (Nat.lt_succ_self _)
theorem par4_w7 (h : Par4 M w C ψ Ks s) {k : Nat} (hk : k < 4) : ψ k 7 = w 7 := h.sh k hk (7, .cells false (M.C (.map 8))) (by simp [memP])
theorem par4_hasG (h : Par4 M w C ψ Ks s) : hasG s GF = true := by
  have A := h.at_ 0 (by decide)
  unfold Go.Mini.hasG
  rw [List.all_eq_true]
  intro x hx
  obtain ⟨ro, hr⟩ := A.fz x hx
  rw [A.glob _ (gz3 x hx)] at hr
  rw [hr]
  exact AV.beqs_self _
end
/-! ### rows of refs that are held -/
def HeldV (s : AS) (v : AV) (b : Nat) (held : List RefP) : Prop := (v = .nilSlice ∧ held = []) ∨ ∃ o R, v = .osl b o held.length 3 ∧ s.get b = some (.cells false R) ∧ R.drop o = refsC held ∧ namess (fun _ => false) R = true
theorem HeldV.same {s s2 : AS} {v : AV} {b : Nat} {held : List RefP} (h : HeldV s v b held) (e : s2.get b = s.get b) : HeldV s2 v b held := by
  rcases h with h | ⟨o, R, h1, h2, h3⟩
  · exact .inl h
  · exact .inr ⟨o, R, h1, by rw [e]; exact h2, h3⟩
/-- What is appended. -/
theorem HeldV.app {s : AS} {v : AV} {b : Nat} {held : List RefP} (h : HeldV s v b held) {b2 n c2 : Nat} {out : List RefP} (hb2 : s.get b2 = some (.cells false (refsC out))) (hn : out.length = n) (h0 : 0 < n) (hsm : held.length + n < 16777216) :
    ∃ s2, appendA Tryz.prog s 49 49 v (.slice b2 0 n c2) = some (.osl s.nx 0 (held ++ out).length 3, s2) ∧ (s2 = s.push (.cells false (refsC (held ++ out))) ∨ s2 = (s.set b .dead).push (.cells false (refsC (held ++ out)))) := by
  obtain ⟨elem, e2, i, z, size, u1, u2, u3, u4, u5, e3, u6, u7⟩ := rowT_inv rowR
  have e3 : 3 = size + 1 := e3.symm
  have rl : ∀ l : List RefP, (refsC l).length = l.length * (size + 1) := fun l => by rw [← e3]; exact refsC_len l
  have hf : firstA s (size + 1) n (.slice b2 0 n c2) = some (refsC out) := by
    simp only [firstA, readA, hb2, List.drop_zero]
    exact takeN_all (by rw [rl, hn])
  have h1 : Nat.beq n 0 = false := by
    cases n with
    | zero => omega
    | succ n => rfl
  have hs : ∀ m, m < 16777216 → small m = true := fun m hm => by
    unfold small
    exact Nat.ble_eq_true_of_le (by omega)
  have ho := refsC_one out
  rcases h with ⟨rfl, rfl⟩ | ⟨o, R, rfl, hb, hd, hR⟩
  · refine ⟨s.push (.cells false (refsC ([] ++ out))), ?_, .inl rfl⟩
    rw [List.nil_append, hn, e3]
    simp only [appendA, u1, u3, u4, u5, sliceLen, u6, u7, hf, ho, h1, hs n (by omega), Bool.and_self, Bool.not_true, Bool.false_eq_true, if_false, if_true]
  · refine ⟨(s.set b .dead).push (.cells false (refsC (held ++ out))), ?_, .inr rfl⟩
    have hr : readA s b o (held.length * (size + 1)) = some (refsC held) := by
      simp only [readA, hb, hd]
      exact takeN_all (rl held)
    have hw : rwAt s b = true := by
      unfold rwAt
      rw [hb]
    rw [List.length_append, hn, e3, refsC_app]
    simp only [appendA, u1, u3, u4, u5, sliceLen, u6, u7, hf, ho, h1, hs (held.length + n) hsm, hw, hr, refsC_one held, Bool.and_self, Bool.not_true, Bool.false_eq_true, if_false, if_true, Nat.beq_refl]
end Go.Proofs.YtofbdgmknfbkfaaGreatDoor.nodesLife
namespace Go.Proofs.YtofbdgmknfbkfaaGreatDoor.nodesLife
open Go Go.Mini
/-! ### the row of actors, and all that lies there -/
def pA (q : Kd) (x : Nat) : AV := match q with
  | .al => .ptr x 0
  | _ => .nilPtr
def pM (q : Kd) (x : Nat) : AV := match q with
  | .mk => .ptr x 0
  | _ => .nilPtr
def pG (q : Kd) (x : Nat) : AV := match q with
  | .go => .ptr x 0
  | _ => .nilPtr
def pF (q : Kd) (x : Nat) : AV := match q with
  | .fr => .ptr x 0
  | _ => .nilPtr
structure RowOk (thr most : Nat) (R : List AV) (ψ : Nat → Nat → Nat) (th : Nat → Th) (hv : Nat → AV) : Prop where
  len : R.length = 27
  g : ∀ k, k < 3 → R[9 * k]? = some (.ptr (ψ k 10) 0)
  t : ∀ k, k < 3 → R[9 * k + 1]? = some (i64 (Int.ofNat thr))
  n : ∀ k, k < 3 → R[9 * k + 2]? = some (i64 0)
  m : ∀ k, k < 3 → R[9 * k + 3]? = some (u32 most)
  h : ∀ k, k < 3 → R[9 * k + 4]? = some (hv k)
  a : ∀ k, k < 3 → R[9 * k + 5]? = some (pA (kd (th k).op) (ψ k 15))
  b : ∀ k, k < 3 → R[9 * k + 6]? = some (pM (kd (th k).op) (ψ k 15))
  c : ∀ k, k < 3 → R[9 * k + 7]? = some (pG (kd (th k).op) (ψ k 18))
  f : ∀ k, k < 3 → R[9 * k + 8]? = some (pF (kd (th k).op) (ψ k 15))
theorem RowOk.upd {thr most : Nat} {R R' : List AV} {ψ : Nat → Nat → Nat} {th : Nat → Th} {hv : Nat → AV} (h : RowOk thr most R ψ th hv) {k : Nat} {t' : Th} {π' : Nat → Nat} {v' : AV} (h10 : π' 10 = ψ k 10) (hl : R'.length = 27) (hR : ∀ i, i < 9 * k + 4 ∨ 9 * k + 9 ≤ i → R'[i]? = R[i]?)
    (c4 : R'[9 * k + 4]? = some v') (c5 : R'[9 * k + 5]? = some (pA (kd t'.op) (π' 15))) (c6 : R'[9 * k + 6]? = some (pM (kd t'.op) (π' 15))) (c7 : R'[9 * k + 7]? = some (pG (kd t'.op) (π' 18))) (c8 : R'[9 * k + 8]? = some (pF (kd t'.op) (π' 15))) : RowOk thr most R' (tun ψ k π') (tunT th k t') (tun hv k v') := by
  have tt : ∀ j, tunT th k t' j = if j = k then t' else th j := fun j => rfl
  refine ⟨hl, fun j hj => ?_, fun j hj => ?_, fun j hj => ?_, fun j hj => ?_, fun j hj => ?_, fun j hj => ?_, fun j hj => ?_, fun j hj => ?_, fun j hj => ?_⟩
  · rw [hR _ (by omega), h.g j hj]
    by_cases e : j = k
    · subst e; rw [tun_same, h10]
    · rw [tun_ne _ _ e]
  · rw [hR _ (by omega), h.t j hj]
  · rw [hR _ (by omega), h.n j hj]
  · rw [hR _ (by omega), h.m j hj]
  all_goals by_cases e : j = k
  · subst e; rw [tun_same]; exact c4
  · rw [tun_ne _ _ e, hR _ (by omega)]; exact h.h j hj
  · subst e; rw [tun_same, tt, if_pos rfl]; exact c5
  · rw [tun_ne _ _ e, tt, if_neg e, hR _ (by omega)]; exact h.a j hj
  · subst e; rw [tun_same, tt, if_pos rfl]; exact c6
  · rw [tun_ne _ _ e, tt, if_neg e, hR _ (by omega)]; exact h.b j hj
  · subst e; rw [tun_same, tt, if_pos rfl]; exact c7
  · rw [tun_ne _ _ e, tt, if_neg e, hR _ (by omega)]; exact h.c j hj
  · subst e; rw [tun_same, tt, if_pos rfl]; exact c8
  · rw [tun_ne _ _ e, tt, if_neg e, hR _ (by omega)]; exact h.f j hj
def rsOf (th : Nat → Th) (G : List RefP) (k : Nat) : List RefP := if k < 3 then (th k).held else G
structure LayL (thr most : Nat) (M : PM) (th : Nat → Th) (G : List RefP) (H : HS) (s : AS) (w : Nat → Nat) (C : Nat → List (Nat × AObj)) (ψ : Nat → Nat → Nat) (tb : Nat) (hb : Nat → Nat) (hv : Nat → AV) (Ks : List Nat) : Prop where
  par : Par4 M w C ψ Ks s
  act : ∀ k, k < 3 → PartAt k thr most (th k) (C k)
  sh : ∃ bn ck, C 3 = shB most H bn ck
  row : ∃ R, s.get tb = some (.cells false R) ∧ RowOk thr most R ψ th hv
  held : ∀ k, k < 4 → HeldV s (hv k) (hb k) (rsOf th G k)
  tbK : tb ∈ Ks ∧ 2 ≤ tb
  hbK : ∀ k, k < 4 → hb k ∈ Ks ∧ 2 ≤ hb k ∧ hb k ≠ tb
  hbD : ∀ j, j < 4 → ∀ k, k < 4 → j ≠ k → hb j ≠ hb k
theorem big_of {C : List (Nat × AObj)} (h : (C.map (·.1)).all (Nat.ble 9) = true) : ∀ y ∈ C, 9 ≤ y.1 := fun y hy => Nat.le_of_ble_eq_true (List.all_eq_true.1 h y.1 (List.mem_map.2 ⟨y, hy, rfl⟩))
theorem gl_big {k : Nat} {L : List Ent} {B : List (Nat × AObj)} (h : LiAt L B) : ∀ y ∈ gl k B, 9 ≤ y.1 := fun y hy => by
  have := (li_xk (k := k) h y hy).1
  simp only [K4, List.mem_cons, List.not_mem_nil, or_false] at this
  omega
theorem fr_big {most : Nat} {x : Fr} {D : List (Nat × AObj)} (h : frAt most x D) : ∀ y ∈ D, 9 ≤ y.1 := fun y hy => by
  have := fr_keys h y.1 (List.mem_map.2 ⟨y, hy, rfl⟩)
  omega
theorem big_app {A B : List (Nat × AObj)} (h : ∀ y ∈ A, 9 ≤ y.1) (h2 : ∀ y ∈ B, 9 ≤ y.1) : ∀ y ∈ A ++ B, 9 ≤ y.1 := fun y hy => (List.mem_append.1 hy).elim (h y) (h2 y)
theorem op_big {thr most : Nat} {t : Th} {C : List (Nat × AObj)} (h : opB thr most t C) : ∀ y ∈ C, 9 ≤ y.1 := by
  obtain ⟨held, L, op⟩ := t
  cases op with
  | no => obtain rfl : C = [] := h; exact big_of rfl
  | a1 h' x => obtain rfl : C = _ := h; exact big_of rfl
  | a2 h' x => obtain rfl : C = _ := h; exact big_of rfl
  | a3 h' x => obtain rfl : C = _ := h; exact big_of rfl
  | a4 z h' x => obtain rfl : C = _ := h; exact big_of rfl
  | a5 z h' x => obtain rfl : C = _ := h; exact big_of rfl
  | a6 z h' x e => obtain rfl : C = _ := h; exact big_of rfl
  | a7 z e => obtain rfl : C = _ := h; exact big_of rfl
  | a8 z e g => obtain rfl : C = _ := h; exact big_of rfl
  | mk z g j => obtain rfl : C = _ := h; exact big_of rfl
  | rt l z g b e r => obtain rfl : C = _ := h; exact big_of rfl
  | sc y s =>
    obtain ⟨z, g, b, e, r, rfl⟩ := h
    cases s <;> exact big_of rfl
  | fr y x goes freed =>
    obtain ⟨z, g, b, e, r, m, o, R, D, rfl, hD, _⟩ := h
    refine big_app (big_of rfl) fun y hy => ?_
    rcases List.mem_cons.1 hy with rfl | hy
    · exact Nat.le_refl 9
    · exact big_app (fr_big hD) (big_of rfl) y hy
  | dr x => exact fr_big h
theorem part_big {k thr most : Nat} {t : Th} {P : List (Nat × AObj)} (h : PartAt k thr most t P) : ∀ y ∈ P, 9 ≤ y.1 := by
  obtain ⟨B, C, hB, hC, rfl⟩ := h
  exact big_app (op_big hC) (gl_big hB)
section
variable {thr most : Nat} {M : PM} {th : Nat → Th} {G : List RefP} {H : HS} {s : AS} {w : Nat → Nat} {C : Nat → List (Nat × AObj)} {ψ : Nat → Nat → Nat} {tb : Nat} {hb : Nat → Nat} {hv : Nat → AV} {Ks : List Nat}
theorem LayL.big (h : LayL thr most M th G H s w C ψ tb hb hv Ks) : BigC C := fun j hj y hy => by
  by_cases e : j < 3
  · exact part_big (h.act j e) y hy
  · obtain ⟨bn, ck, hs⟩ := h.sh
    obtain rfl : j = 3 := by omega
    rw [hs] at hy
    exact big_of rfl y hy
theorem bigT {C : Nat → List (Nat × AObj)} (h : BigC C) {k : Nat} {c : List (Nat × AObj)} (hc : ∀ y ∈ c, 9 ≤ y.1) : BigC (tun C k c) := fun j hj y hy => by
  unfold tun at hy
  split at hy
  · exact hc y hy
  · exact h j hj y hy
theorem LayL.same (h : LayL thr most M th G H s w C ψ tb hb hv Ks) {s2 : AS} (hbs : s2.h.bs = s.h.bs) (hn : s2.nx = s.nx) : LayL thr most M th G H s2 w C ψ tb hb hv Ks := by
  have g : ∀ c, s2.get c = s.get c := fun c => by show getB _ _ = getB _ _; rw [hbs]
  obtain ⟨R, h1, h2⟩ := h.row
  exact ⟨par4_same h.par hbs hn, h.act, h.sh, ⟨R, by rw [g]; exact h1, h2⟩, fun k hk => (h.held k hk).same (g _), h.tbK, h.hbK, h.hbD⟩
/-- What is left when one actor has gone on. -/
theorem LayL.fin (h : LayL thr most M th G H s w C ψ tb hb hv Ks) {k : Nat} (hk : k < 3) {M' : PM} {t' : Th} {c' : List (Nat × AObj)} {π' : Nat → Nat} {s' : AS} {R R' : List AV} {v' : AV} {b' : Nat} {Ks' : List Nat} (hp : Par4 M' w (tun C k c') (tun ψ k π') Ks' s') (hP : PartAt k thr most t' c') (hRo : RowOk thr most R ψ th hv) (hRr : s'.get tb = some (.cells false R'))
    (h10 : π' 10 = ψ k 10) (hl : R'.length = 27) (hR : ∀ i, i < 9 * k + 4 ∨ 9 * k + 9 ≤ i → R'[i]? = R[i]?)
    (c4 : R'[9 * k + 4]? = some v') (c5 : R'[9 * k + 5]? = some (pA (kd t'.op) (π' 15))) (c6 : R'[9 * k + 6]? = some (pM (kd t'.op) (π' 15))) (c7 : R'[9 * k + 7]? = some (pG (kd t'.op) (π' 18))) (c8 : R'[9 * k + 8]? = some (pF (kd t'.op) (π' 15)))
    (hh : HeldV s' v' b' t'.held) (hKs : ∀ c ∈ Ks, c ∈ Ks') (hoth : ∀ c ∈ Ks, c ≠ tb → c ≠ hb k → s'.get c = s.get c) (hb' : b' = hb k ∨ (b' ∈ Ks' ∧ s.nx ≤ b')) : LayL thr most M' (tunT th k t') G H s' w (tun C k c') (tun ψ k π') tb (tun hb k b') (tun hv k v') Ks' := by
  have tt : ∀ j, tunT th k t' j = if j = k then t' else th j := fun j => rfl
  have lt : ∀ c ∈ Ks, c < s.nx := fun c hc => (h.par.ks c hc).1
  have nb : ∀ j, j < 4 → j ≠ k → b' ≠ hb j := fun j hj hjk => by
    rcases hb' with rfl | ⟨_, h2⟩
    · exact h.hbD k (by omega) j hj (Ne.symm hjk)
    · have := lt _ (h.hbK j hj).1
      omega
  have htb := lt _ h.tbK.1
  have h2s : 2 ≤ s.nx := by have := h.tbK.2; omega
  refine ⟨hp, fun j hj => ?_, ?_, ⟨R', hRr, hRo.upd h10 hl hR c4 c5 c6 c7 c8⟩, fun j hj => ?_, ⟨hKs _ h.tbK.1, h.tbK.2⟩, fun j hj => ?_, fun i hi j hj hij => ?_⟩
  · by_cases e : j = k
    · subst e; rw [tun_same, tt, if_pos rfl]; exact hP
    · rw [tun_ne _ _ e, tt, if_neg e]; exact h.act j hj
  · rw [tun_ne _ _ (by omega)]; exact h.sh
  · by_cases e : j = k
    · subst e
      rw [tun_same, tun_same]
      unfold rsOf
      rw [if_pos hk, tt, if_pos rfl]
      exact hh
    · rw [tun_ne _ _ e, tun_ne _ _ e]
      have : rsOf (tunT th k t') G j = rsOf th G j := by
        unfold rsOf
        rw [tt, if_neg e]
      rw [this]
      exact (h.held j hj).same (hoth _ (h.hbK j hj).1 (h.hbK j hj).2.2 (h.hbD j hj k (by omega) e))
  · by_cases e : j = k
    · subst e
      rw [tun_same]
      rcases hb' with rfl | ⟨h1, h2⟩
      · exact ⟨hKs _ (h.hbK j hj).1, (h.hbK j hj).2⟩
      · exact ⟨h1, by omega, by omega⟩
    · rw [tun_ne _ _ e]
      exact ⟨hKs _ (h.hbK j hj).1, (h.hbK j hj).2⟩
  · by_cases e : i = k
    · subst e
      rw [tun_same, tun_ne _ _ (Ne.symm hij)]
      exact nb j hj (Ne.symm hij)
    · rw [tun_ne _ _ e]
      by_cases e2 : j = k
      · subst e2
        rw [tun_same]
        exact (nb i hi e).symm
      · rw [tun_ne _ _ e2]
        exact h.hbD i hi j hj hij
end
end Go.Proofs.YtofbdgmknfbkfaaGreatDoor.nodesLife
namespace Go.Proofs.YtofbdgmknfbkfaaGreatDoor.nodesLife
open Go Go.Mini
/-! ### an actor's step, where it lies -/
theorem as_call {s s' : AS} {tb o b : Nat} {v : AV} {e : AExit} {ts' : List AV} (hj : tget ts' 4 = v) (h : Sound Tryz.prog (.code (cOf 13) (aT tb o b) (ent s)) ⟨e, ts', s'⟩) (he : e = .normal ∨ e = .ret) : ∃ s2 : AS, s2.h.bs = s'.h.bs ∧ s2.nx = s'.nx ∧ Sound Tryz.prog (.call 13 [.ptr tb o, .ptr b 0] s) ⟨.ret, [v], s2⟩ := by
  have := keepC2 (s := s) (f := 13) (fn := Tryz.f13) (c := cOf 13) (args := [.ptr tb o, .ptr b 0]) (vs := [v]) Tryz.func13 (by kernel_rfl) (by rw [show Tryz.f13.ntmps = 98 from by kernel_rfl]; exact h) he (by rw [show Tryz.f13.results.toList = [.tmp 4] from by kernel_rfl]; exact res4 hj)
  exact ⟨⟨⟨s'.h.bs, s'.h.len, none, olds s.nx s'.h.wr s.h.wr⟩, s'.nx⟩, rfl, rfl, this⟩
theorem g5A : isAggA Tryz.prog 50 = some false := by kernel_rfl
theorem g5M : isAggA Tryz.prog 51 = some false := by kernel_rfl
theorem g5G : isAggA Tryz.prog 52 = some false := by kernel_rfl
theorem g5F : isAggA Tryz.prog 53 = some false := by kernel_rfl
theorem g5R : isAggA Tryz.prog 49 = some false := by kernel_rfl
theorem z5A : sizeA Tryz.prog 50 = some 1 := by kernel_rfl
theorem z5M : sizeA Tryz.prog 51 = some 1 := by kernel_rfl
theorem z5G : sizeA Tryz.prog 52 = some 1 := by kernel_rfl
theorem z5F : sizeA Tryz.prog 53 = some 1 := by kernel_rfl
theorem z5R : sizeA Tryz.prog 49 = some 1 := by kernel_rfl
theorem ld_ref {s : AS} {b : Nat} {z : Int} {g : Nat} (h : s.get b = some (refO z g)) : loadA Tryz.prog s 74 (.ptr b 0) = some (refA z g) := by
  have h : s.get b = some (.cells false [i64 z, u32 g, .bool false]) := h
  simp only [loadA, gE, zR, readA, h]
  rfl
theorem set_at {R : List AV} {i : Nat} {v : AV} (h : i < R.length) : (R.set i v)[i]? = some v := List.getElem?_set_self h
theorem set_ot {R : List AV} {i j : Nat} {v : AV} (h : j ≠ i) : (R.set i v)[j]? = R[j]? := List.getElem?_set_ne (Ne.symm h)
theorem tun_tun {α : Type} (f : Nat → α) (k : Nat) (a b : α) : tun (tun f k a) k b = tun f k b := by
  funext j
  unfold tun
  split <;> rfl
def RetV (s : AS) (v : AV) (out : List RefP) : Prop := (v = .nilSlice ∧ out = []) ∨ ∃ b, v = .slice b 0 out.length out.length ∧ s.get b = some (.cells false (refsC out)) ∧ out ≠ [] ∧ out.length ≤ 16
section
variable {thr most K : Nat} {M : PM} {FL : List Nat} {th : Nat → Th} {G G0 : List RefP} {H : HS} {s : AS} {w : Nat → Nat} {C : Nat → List (Nat × AObj)} {ψ : Nat → Nat → Nat} {tb : Nat} {hb : Nat → Nat} {hv : Nat → AV} {Ks : List Nat} {k : Nat}
def AStepOk (thr most : Nat) (M : PM) (th : Nat → Th) (G : List RefP) (H : HS) (s : AS) (w : Nat → Nat) (ψ : Nat → Nat → Nat) (tb : Nat) (hb : Nat → Nat) (hv : Nat → AV) (Ks : List Nat) (k : Nat) : Prop :=
  ∃ (sel : Nat → Bool) (s' : AS) (C' : Nat → List (Nat × AObj)) (ψ' : Nat → Nat → Nat) (b' : Nat) (v' : AV) (Ks' : List Nat) (v : AV), Sound Tryz.prog (.call 13 [.ptr tb (9 * k), .ptr (w 7) 0] s) ⟨.ret, [v], s'⟩ ∧
    LayL thr most (go most thr sel M (th k)).1 (tunT th k (go most thr sel M (th k)).2.1) G H s' w C' ψ' tb (tun hb k b') (tun hv k v') Ks' ∧ RetV s' v (go most thr sel M (th k)).2.2 ∧ (∀ c ∈ Ks, c ∈ Ks') ∧ (∀ c ∈ Ks, c ≠ tb → c ≠ hb k → s'.get c = s.get c) ∧ s.nx ≤ s'.nx ∧ (b' = hb k ∨ s.nx ≤ b') ∧ ψ' 3 = ψ 3
theorem as_fin {sel : Nat → Bool} {s3 : AS} {C' : Nat → List (Nat × AObj)} {ψ' : Nat → Nat → Nat} {b' : Nat} {v' v : AV} {Ks' : List Nat} (hx : ∃ ts', tget ts' 4 = v ∧ Sound Tryz.prog (.code (cOf 13) (aT tb (9 * k) (w 7)) (ent s)) ⟨.ret, ts', s3⟩)
    (L : LayL thr most (go most thr sel M (th k)).1 (tunT th k (go most thr sel M (th k)).2.1) G H s3 w C' ψ' tb (tun hb k b') (tun hv k v') Ks') (hr : RetV s3 v (go most thr sel M (th k)).2.2) (hK : ∀ c ∈ Ks, c ∈ Ks') (ho : ∀ c ∈ Ks, c ≠ tb → c ≠ hb k → s3.get c = s.get c) (hn : s.nx ≤ s3.nx) (hbb : b' = hb k ∨ s.nx ≤ b') (h3 : ψ' 3 = ψ 3 := by exact tun_ne _ _ (by omega)) : AStepOk thr most M th G H s w ψ tb hb hv Ks k := by
  obtain ⟨ts', hj, hC⟩ := hx
  obtain ⟨s2, e1, e2, hF⟩ := as_call (s := s) hj hC (.inr rfl)
  have g : ∀ c, s2.get c = s3.get c := fun c => by show getB _ _ = getB _ _; rw [e1]
  refine ⟨sel, s2, C', ψ', b', v', Ks', v, hF, L.same e1 e2, ?_, hK, fun c hc h1 h2 => by rw [g]; exact ho c hc h1 h2, by omega, hbb, h3⟩
  rcases hr with h | ⟨b, h1, h2, h3⟩
  · exact .inl h
  · exact .inr ⟨b, h1, by rw [g]; exact h2, h3⟩
theorem al_at (L : LayL thr most M th G H s w C ψ tb hb hv Ks) (I : Inv most K M FL th G0) (E : ExT (th k)) (hm : most < 4294967296) (hk : k < 3) (hq : kd (th k).op = .al) : AStepOk thr most M th G H s w ψ tb hb hv Ks k := by
  have L0 := L.same (s2 := ent s) rfl rfl
  obtain ⟨R, hR, hRo⟩ := L0.row
  have hlen := I.len hk
  have w7 := par4_w7 L0.par (k := k) (by omega)
  obtain ⟨s1, π1, v1, c1, hQ, a1, a2, a3, a4, a5, _⟩ := par4 L0.par L0.big (show k < 4 by omega) (alloc_sr I hk hm E (fun _ => false) (L0.act k hk) hq) (by decide) (by decide)
  have ra := hRo.a k hk
  have rb := hRo.b k hk
  have rc := hRo.c k hk
  have rf := hRo.f k hk
  have rh := hRo.h k hk
  have rl := hRo.len
  rw [hq] at ra rb rc rf
  have hR1 : s1.get tb = some (.cells false R) := by rw [a3 tb L0.tbK.1]; exact hR
  have hd0 := L0.held k (by omega)
  have er : rsOf th G k = (th k).held := by unfold rsOf; rw [if_pos hk]
  rw [er] at hd0
  rcases hQ with ⟨rfl, hP, ho, hkd, hhe⟩ | ⟨rfl, B, C1, hB, rfl, hF⟩
  · have a1 : Sound Tryz.prog (.call 36 [.ptr (ψ k 15) 0, .ptr (ψ k 7) 0] (ent s)) ⟨.ret, [.bool false], s1⟩ := a1
    rw [w7] at a1
    have hx := code_at (as_aln (ent s) s1 tb (9 * k) (w 7) (ψ k 15)) ⟨ld_cell g5A hR ra, ld_cell g5A hR ra, a1, trivial⟩
    refine as_fin hx (L0.fin hk (b' := hb k) (v' := hv k) a2 hP hRo hR1 (a5 10 (by decide)) rl (fun _ _ => rfl) rh ?_ ?_ ?_ ?_ ?_ (fun _ h => h) (fun c hc _ _ => a3 c hc) (.inl rfl)) (.inl ⟨rfl, ho⟩) (fun _ h => h) (fun c hc _ _ => a3 c hc) a4 (.inl rfl)
    · rw [ra, hkd, hq, a5 15 (by decide)]
    · rw [rb, hkd, hq]; rfl
    · rw [rc, hkd, hq]; rfl
    · rw [rf, hkd, hq]; rfl
    · rw [hhe]
      exact hd0.same (a3 _ (L0.hbK k (by omega)).1)
  · have a1 : Sound Tryz.prog (.call 36 [.ptr (ψ k 15) 0, .ptr (ψ k 7) 0] (ent s)) ⟨.ret, [.bool true], s1⟩ := a1
    rw [w7] at a1
    have p15 : π1 15 = ψ k 15 := a5 15 (by decide)
    unfold FinQ at hF
    rw [hq] at hF
    obtain ⟨ho, hF⟩ := hF
    have n1 : ∀ b ∈ [0, 1, 10, 11, 12, 13], kl [] b = b := by decide
    have n2 : ∀ b ∈ kA, b < 24 ∧ kl [] b = b := by decide
    have d1 : ∀ b ∈ K4, b ∉ ([15, 16] : List Nat) := by decide
    have d2 : ∀ b ∈ K4, b ∉ ([15, 16, 17] : List Nat) := by decide
    rcases hF with ⟨hno, hhe, h', x', rfl⟩ | ⟨e', z, g, hz, hmk, hhe, rfl⟩
    · -- there was none
      have hg := stp (k_an (go most thr (fun _ => false) M (th k)).1 (mapO (go most thr (fun _ => false) M (th k)).1.ms) h' x') trivial (v := .tuple [refA (Int.negSucc 0) 0, .bool false]) rfl
      obtain ⟨s2, π2, v2, c2, ⟨rfl, rfl⟩, b1, b2, b3, b4, b5, _⟩ := par4 a2 (bigT L0.big (big_app (big_of rfl) (gl_big hB))) (show k < 4 by omega) (Q := fun v c => v = .tuple [refA (Int.negSucc 0) 0, .bool false] ∧ c = [] ++ gl k B) (by
        rw [tun_same]
        exact SR.of (SF.fl hB hg n1 d1) n2 ⟨rfl, rfl⟩) (by decide) (by decide)
      rw [tun_same] at b1
      have b1 : Sound Tryz.prog (.call 37 [.ptr (π1 15) 0] s1) ⟨.ret, [.tuple [refA (Int.negSucc 0) 0, .bool false]], s2⟩ := b1
      rw [p15] at b1
      have P3 := par4_new b2 z3O
      have g3 : (s2.push z3O).get s2.nx = some (.cells false [i64 0, u32 0, .bool false]) := by rw [get_push, if_pos rfl]; rfl
      obtain ⟨s3, c1', c2', c3'⟩ := st_all (P := Tryz.prog) (t := 74) (cs := [i64 0, u32 0, .bool false]) (vs := [i64 (Int.negSucc 0), u32 0, .bool false]) zR rfl rfl g3
      have n2s : 2 ≤ s2.nx := by have := (b2.ks tb L0.tbK.1).1; have := L0.tbK.2; omega
      obtain ⟨P4, o4, q4⟩ := par4_row P3 ⟨List.mem_cons_self, n2s⟩ c2' c3'
      have old : ∀ c ∈ Ks, s3.get c = s.get c := fun c hc => by
        have hc2 := (b2.ks c hc).1
        rw [o4 c (by omega), get_push, if_neg (by omega), b3 c hc, a3 c hc]
        rfl
      have hR3 : s3.get tb = some (.cells false R) := by rw [old tb L0.tbK.1]; exact hR
      obtain ⟨s4, d1', d2', d3'⟩ := st_one (P := Tryz.prog) (v := .nilPtr) z5A rfl rfl hR3 (show 9 * k + 5 < R.length by omega)
      obtain ⟨P5, o5, q5⟩ := par4_row P4 ⟨List.mem_cons_of_mem _ L0.tbK.1, L0.tbK.2⟩ d2' d3'
      have hx := code_at (as_al0 (ent s) s1 s2 s3 s4 tb (9 * k) (w 7) (ψ k 15) (Int.negSucc 0) 0) ⟨ld_cell g5A hR ra, ld_cell g5A hR ra, a1, ld_cell g5A hR1 ra, b1, ⟨c1', rfl⟩, ⟨d1', rfl⟩, trivial⟩
      have ott : ∀ c ∈ Ks, c ≠ tb → c ≠ hb k → s4.get c = s.get c := fun c hc h1 _ => by rw [o5 c h1, old c hc]
      rw [tun_tun, tun_tun] at P5
      refine as_fin hx (L0.fin hk (b' := hb k) (v' := hv k) P5 ⟨B, [], hB, by unfold opB; rw [hno], rfl⟩ hRo (q5 _ hR3) (by rw [b5 10 (by decide), tun_same, a5 10 (by decide)]) (by rw [List.length_set]; exact rl) (fun i hi => set_ot (by omega)) (by rw [set_ot (by omega)]; exact rh) ?_ ?_ ?_ ?_ ?_ (fun c h => List.mem_cons_of_mem _ h) ott (.inl rfl)) (.inl ⟨rfl, ho⟩) (fun c h => List.mem_cons_of_mem _ h) ott (by
        have : (ent s).nx = s.nx := rfl
        have : (s2.push z3O).nx = s2.nx + 1 := rfl
        omega) (.inl rfl)
      · rw [set_at (by omega), hno]; rfl
      · rw [set_ot (by omega), rb, hno]; rfl
      · rw [set_ot (by omega), rc, hno]; rfl
      · rw [set_ot (by omega), rf, hno]; rfl
      · rw [hhe]
        exact hd0.same (by rw [o5 _ (L0.hbK k (by omega)).2.2, old _ (L0.hbK k (by omega)).1]; rfl)
    · -- a slot was got
      have hg := stp (k_ay (go most thr (fun _ => false) M (th k)).1 (mapO (go most thr (fun _ => false) M (th k)).1.ms) e' g (Int.ofNat z)) trivial (v := .tuple [refA (Int.ofNat z) g, .bool true]) rfl
      obtain ⟨s2, π2, v2, c2, ⟨rfl, rfl⟩, b1, b2, b3, b4, b5, _⟩ := par4 a2 (bigT L0.big (big_app (big_of rfl) (gl_big hB))) (show k < 4 by omega) (Q := fun v c => v = .tuple [refA (Int.ofNat z) g, .bool true] ∧ c = [] ++ gl k B) (by
        rw [tun_same]
        exact SR.of (SF.fl hB hg n1 (show ∀ b ∈ K4, b ∉ ([15] : List Nat) by decide)) n2 ⟨rfl, rfl⟩) (by decide) (by decide)
      rw [tun_same] at b1
      have b1 : Sound Tryz.prog (.call 37 [.ptr (π1 15) 0] s1) ⟨.ret, [.tuple [refA (Int.ofNat z) g, .bool true]], s2⟩ := b1
      rw [p15] at b1
      have P3 := par4_new b2 z3O
      have g3 : (s2.push z3O).get s2.nx = some (.cells false [i64 0, u32 0, .bool false]) := by rw [get_push, if_pos rfl]; rfl
      obtain ⟨s3, c1', c2', c3'⟩ := st_all (P := Tryz.prog) (t := 74) (cs := [i64 0, u32 0, .bool false]) (vs := [i64 (Int.ofNat z), u32 g, .bool false]) zR rfl rfl g3
      have tlt := (b2.ks tb L0.tbK.1).1
      have t2 := L0.tbK.2
      have hlt := (b2.ks (hb k) (L0.hbK k (by omega)).1).1
      obtain ⟨hbK1, hbK2, hbK3⟩ := L0.hbK k (show k < 4 by omega)
      have pn : (s2.push z3O).nx = s2.nx + 1 := rfl
      obtain ⟨P4, o4, q4⟩ := par4_row P3 ⟨List.mem_cons_self, by omega⟩ c2' c3'
      have g3' : s3.get s2.nx = some (refO (Int.ofNat z) g) := q4 _ g3
      have old : ∀ c ∈ Ks, s3.get c = s.get c := fun c hc => by
        have hc2 := (b2.ks c hc).1
        rw [o4 c (by omega), get_push, if_neg (by omega), b3 c hc, a3 c hc]
        rfl
      have hR3 : s3.get tb = some (.cells false R) := by rw [old tb L0.tbK.1]; exact hR
      obtain ⟨s4, d1', d2', d3'⟩ := st_one (P := Tryz.prog) (v := .nilPtr) z5A rfl rfl hR3 (show 9 * k + 5 < R.length by omega)
      obtain ⟨P5, o5, q5⟩ := par4_row P4 ⟨List.mem_cons_of_mem _ L0.tbK.1, t2⟩ d2' d3'
      have hR4 := q5 _ hR3
      have g4 : s4.get s2.nx = some (refO (Int.ofNat z) g) := by rw [o5 _ (by omega)]; exact g3'
      have P6 := par4_new P5 (refO (Int.ofNat z) g)
      have n4 : s4.nx = s2.nx + 1 := by omega
      have pg : ∀ c, c < s4.nx → (s4.push (refO (Int.ofNat z) g)).get c = s4.get c := fun c hc => by rw [get_push, if_neg (by omega)]
      have hd4 : HeldV (s4.push (refO (Int.ofNat z) g)) (hv k) (hb k) (th k).held := hd0.same (by rw [pg _ (by omega), o5 _ hbK3, old _ hbK1]; rfl)
      obtain ⟨s5, e5, h5⟩ := hd4.app (b2 := s4.nx) (n := 1) (c2 := 1) (out := [(z, g)]) (by rw [get_push, if_pos rfl]; rfl) rfl (by decide) (by omega)
      have n5 : s5.nx = s4.nx + 2 := by rcases h5 with rfl | rfl <;> rfl
      have nps : (s4.push (refO (Int.ofNat z) g)).nx = s4.nx + 1 := rfl
      have G5 : s5.get (s4.nx + 1) = some (.cells false (refsC ((th k).held ++ [(z, g)]))) := by
        rcases h5 with rfl | rfl
        · rw [get_push, if_pos (by omega)]
        · rw [get_push, if_pos (by show s4.nx + 1 = (s4.push (refO (Int.ofNat z) g)).nx; omega)]
      have o5' : ∀ c, c < s4.nx + 1 → c ≠ hb k → s5.get c = (s4.push (refO (Int.ofNat z) g)).get c := fun c hc hne => by
        rcases h5 with rfl | rfl
        · rw [get_push, if_neg (by omega)]
        · rw [get_push, if_neg (by show ¬ (s4.push (refO (Int.ofNat z) g)).nx = c; omega), get_set_ne hne]
      have P7 : Par4 (go most thr (fun _ => false) M (th k)).1 w (tun (tun C k (bE e' (Int.ofNat z) g ++ gl k B)) k ([] ++ gl k B)) (tun (tun ψ k π1) k π2) ((s4.nx + 1) :: s4.nx :: s2.nx :: Ks) s5 := by
        rcases h5 with rfl | rfl
        · exact par4_new P6 _
        · obtain ⟨P6', _, _⟩ := par4_row (s2 := (s4.push (refO (Int.ofNat z) g)).set (hb k) .dead) P6 ⟨List.mem_cons_of_mem _ (List.mem_cons_of_mem _ hbK1), hbK2⟩ rfl rfl
          exact par4_new P6' _
      have hR5 : s5.get tb = some (.cells false (R.set (9 * k + 5) .nilPtr)) := by rw [o5' tb (by omega) (fun e => hbK3 e.symm), pg tb (by omega)]; exact hR4
      obtain ⟨s6, f1, f2, f3⟩ := st_one (P := Tryz.prog) (v := .osl (s4.nx + 1) 0 ((th k).held ++ [(z, g)]).length 3) z5R rfl rfl hR5 (show 9 * k + 4 < (R.set (9 * k + 5) .nilPtr).length by rw [List.length_set]; omega)
      obtain ⟨P8, o8, q8⟩ := par4_row P7 ⟨List.mem_cons_of_mem _ (List.mem_cons_of_mem _ (List.mem_cons_of_mem _ L0.tbK.1)), t2⟩ f2 f3
      have hR6 := q8 _ hR5
      have g6 : s6.get s2.nx = some (refO (Int.ofNat z) g) := by rw [o8 _ (by omega), o5' _ (by omega) (by omega), pg _ (by omega)]; exact g4
      have hg7 := nm_step (M := (go most thr (fun _ => false) M (th k)).1) (g := g) hz
      obtain ⟨s7, π7, v7, c7, ⟨rfl, rfl⟩, i1, i2, i3, i4, i5, _⟩ := par4 P8 (bigT (bigT L0.big (big_app (big_of rfl) (gl_big hB))) (gl_big hB)) (show k < 4 by omega) (Q := fun v c => v = .ptr 15 0 ∧ c = mkB (Int.ofNat z) 0 3 ++ gl k B) (keep := [7, 8, 10]) (by
        rw [tun_same]
        exact SR.of (SF.fl hB hg7 (by decide) (show ∀ b ∈ K4, b ∉ ([] : List Nat) by decide)) (by decide) ⟨rfl, rfl⟩) (by decide) (by decide)
      have i1 : Sound Tryz.prog (.call 21 [refA (Int.ofNat z) g, u64 1, u64 2] s6) ⟨.ret, [.ptr (π7 15) 0], s7⟩ := i1
      have hR7 : s7.get tb = some (.cells false ((R.set (9 * k + 5) .nilPtr).set (9 * k + 4) (.osl (s4.nx + 1) 0 ((th k).held ++ [(z, g)]).length 3))) := by rw [i3 tb (List.mem_cons_of_mem _ (List.mem_cons_of_mem _ (List.mem_cons_of_mem _ L0.tbK.1)))]; exact hR6
      obtain ⟨s8, j1, j2, j3⟩ := st_one (P := Tryz.prog) (v := .ptr (π7 15) 0) z5M rfl rfl hR7 (show 9 * k + 6 < ((R.set (9 * k + 5) .nilPtr).set (9 * k + 4) (.osl (s4.nx + 1) 0 ((th k).held ++ [(z, g)]).length 3)).length by rw [List.length_set, List.length_set]; omega)
      obtain ⟨P9, o9, q9⟩ := par4_row i2 ⟨List.mem_cons_of_mem _ (List.mem_cons_of_mem _ (List.mem_cons_of_mem _ L0.tbK.1)), t2⟩ j2 j3
      have e5' : appendA Tryz.prog (s4.push (refO (Int.ofNat z) g)) 49 49 (hv k) (.slice s4.nx 0 1 1) = some (.osl (s4.nx + 1) 0 ((th k).held ++ [(z, g)]).length 3, s5) := e5
      have hx := code_at (as_al1 (ent s) s1 s2 s3 s4 s5 s6 s7 s8 tb (9 * k) (w 7) (ψ k 15) (π7 15) (hv k) (.osl (s4.nx + 1) 0 ((th k).held ++ [(z, g)]).length 3) (Int.ofNat z) g) ⟨ld_cell g5A hR ra, ld_cell g5A hR ra, a1, ld_cell g5A hR1 ra, b1, ⟨c1', rfl⟩, ⟨d1', rfl⟩,
        ld_cell g5R hR4 (by rw [set_ot (by omega)]; exact rh), ld_ref g4, e5', ⟨f1, rfl⟩, ld_ref (by rw [pg _ (by omega)]; exact g4), ld_cell g5R (by rw [pg tb (by omega)]; exact hR4) (by rw [set_ot (by omega)]; exact rh), ld_ref g6, i1, ⟨j1, rfl⟩, trivial⟩
      have inK : ∀ c ∈ Ks, c ∈ (s4.nx + 1) :: s4.nx :: s2.nx :: Ks := fun c h => List.mem_cons_of_mem _ (List.mem_cons_of_mem _ (List.mem_cons_of_mem _ h))
      have ott : ∀ c ∈ Ks, c ≠ tb → c ≠ hb k → s8.get c = s.get c := fun c hc h1 h2 => by
        have hc2 := (b2.ks c hc).1
        rw [o9 c h1, i3 c (inK c hc), o8 c h1, o5' c (by omega) h2, pg c (by omega), o5 c h1, old c hc]
      rw [tun_tun, tun_tun, tun_tun, tun_tun] at P9
      refine as_fin hx (L0.fin hk (b' := s4.nx + 1) (v' := .osl (s4.nx + 1) 0 ((th k).held ++ [(z, g)]).length 3) P9 ⟨B, _, hB, by unfold opB; rw [hmk], rfl⟩ hRo (q9 _ hR7) (by rw [i5 10 (by decide), tun_same, b5 10 (by decide), tun_same, a5 10 (by decide)]) (by rw [List.length_set, List.length_set, List.length_set]; exact rl) (fun i hi => by rw [set_ot (by omega), set_ot (by omega), set_ot (by omega)]) (by rw [set_ot (by omega), set_at (by rw [List.length_set]; omega)]) ?_ ?_ ?_ ?_ ?_ inK ott (.inr ⟨List.mem_cons_self, by have : (ent s).nx = s.nx := rfl; omega⟩)) (.inl ⟨rfl, ho⟩) inK ott (by
        have : (ent s).nx = s.nx := rfl
        omega) (.inr (by
        have : (ent s).nx = s.nx := rfl
        omega))
      · rw [set_ot (by omega), set_ot (by omega), set_at (by omega), hmk]; rfl
      · rw [set_at (by rw [List.length_set, List.length_set]; omega), hmk]; rfl
      · rw [set_ot (by omega), set_ot (by omega), set_ot (by omega), rc, hmk]; rfl
      · rw [set_ot (by omega), set_ot (by omega), set_ot (by omega), rf, hmk]; rfl
      · rw [hhe]
        refine .inr ⟨0, _, rfl, ?_, rfl, refsC_names _ _⟩
        rw [o9 _ (by omega), i3 _ List.mem_cons_self, o8 _ (by omega)]
        exact G5
end
end Go.Proofs.YtofbdgmknfbkfaaGreatDoor.nodesLife
namespace Go.Proofs.YtofbdgmknfbkfaaGreatDoor.nodesLife
open Go Go.Mini
/-! ### an actor's other steps -/
section
variable {thr most K : Nat} {M : PM} {FL : List Nat} {th : Nat → Th} {G G0 : List RefP} {H : HS} {s : AS} {w : Nat → Nat} {C : Nat → List (Nat × AObj)} {ψ : Nat → Nat → Nat} {tb : Nat} {hb : Nat → Nat} {hv : Nat → AV} {Ks : List Nat} {k : Nat}
theorem mk_at (L : LayL thr most M th G H s w C ψ tb hb hv Ks) (I : Inv most K M FL th G0) (_ : ExT (th k)) (_ : most < 4294967296) (hk : k < 3) (hq : kd (th k).op = .mk) : AStepOk thr most M th G H s w ψ tb hb hv Ks k := by
  have L0 := L.same (s2 := ent s) rfl rfl
  obtain ⟨R, hR, hRo⟩ := L0.row
  have w7 := par4_w7 L0.par (k := k) (by omega)
  obtain ⟨s1, π1, v1, c1, hQ, a1, a2, a3, a4, a5, _⟩ := par4 L0.par L0.big (show k < 4 by omega) (make_sr I hk (fun _ => false) (L0.act k hk) hq) (by decide) (by decide)
  have ra := hRo.a k hk
  have rb := hRo.b k hk
  have rc := hRo.c k hk
  have rf := hRo.f k hk
  have rh := hRo.h k hk
  have rl := hRo.len
  rw [hq] at ra rb rc rf
  have hR1 : s1.get tb = some (.cells false R) := by rw [a3 tb L0.tbK.1]; exact hR
  have hd0 := L0.held k (by omega)
  have er : rsOf th G k = (th k).held := by unfold rsOf; rw [if_pos hk]
  rw [er] at hd0
  rcases hQ with ⟨rfl, hP, ho, hkd, hhe⟩ | ⟨rfl, B, C1, hB, rfl, hF⟩
  · have a1 : Sound Tryz.prog (.call 22 [.ptr (ψ k 15) 0, .ptr (ψ k 7) 0] (ent s)) ⟨.ret, [.bool false], s1⟩ := a1
    rw [w7] at a1
    have hx := code_at (as_mkn (ent s) s1 tb (9 * k) (w 7) (ψ k 15)) ⟨ld_cell g5A hR ra, ld_cell g5M hR rb, ld_cell g5M hR rb, a1, trivial⟩
    refine as_fin hx (L0.fin hk (b' := hb k) (v' := hv k) a2 hP hRo hR1 (a5 10 (by decide)) rl (fun _ _ => rfl) rh ?_ ?_ ?_ ?_ ?_ (fun _ h => h) (fun c hc _ _ => a3 c hc) (.inl rfl)) (.inl ⟨rfl, ho⟩) (fun _ h => h) (fun c hc _ _ => a3 c hc) a4 (.inl rfl)
    · rw [ra, hkd, hq]; rfl
    · rw [rb, hkd, hq]; first | rfl | rw [a5 15 (by decide)]
    · rw [rc, hkd, hq]; rfl
    · rw [rf, hkd, hq]; first | rfl | rw [a5 15 (by decide)]
    · rw [hhe]
      exact hd0.same (a3 _ (L0.hbK k (by omega)).1)
  · have a1 : Sound Tryz.prog (.call 22 [.ptr (ψ k 15) 0, .ptr (ψ k 7) 0] (ent s)) ⟨.ret, [.bool true], s1⟩ := a1
    rw [w7] at a1
    unfold FinQ at hF
    rw [hq] at hF
    obtain ⟨ho, hno, hhe⟩ := hF
    obtain ⟨s2, d1', d2', d3'⟩ := st_one (P := Tryz.prog) (v := .nilPtr) z5M rfl rfl hR1 (show 9 * k + 6 < R.length by omega)
    obtain ⟨P5, o5, q5⟩ := par4_row (a2.subC (k := k) (c' := [] ++ gl k B) (by
      rw [tun_same]
      exact fun x hx => List.mem_append.2 (.inr hx))) L0.tbK d2' d3'
    have hx := code_at (as_mky (ent s) s1 s2 tb (9 * k) (w 7) (ψ k 15)) ⟨ld_cell g5A hR ra, ld_cell g5M hR rb, ld_cell g5M hR rb, a1, ⟨d1', rfl⟩, trivial⟩
    have ott : ∀ c ∈ Ks, c ≠ tb → c ≠ hb k → s2.get c = s.get c := fun c hc h1 _ => by rw [o5 c h1, a3 c hc]; rfl
    rw [tun_tun] at P5
    refine as_fin hx (L0.fin hk (b' := hb k) (v' := hv k) P5 ⟨B, [], hB, by unfold opB; rw [hno], rfl⟩ hRo (q5 _ hR1) (a5 10 (by decide)) (by rw [List.length_set]; exact rl) (fun i hi => set_ot (by omega)) (by rw [set_ot (by omega)]; exact rh) ?_ ?_ ?_ ?_ ?_ (fun c h => h) ott (.inl rfl)) (.inl ⟨rfl, ho⟩) (fun c h => h) ott (by
      have : (ent s).nx = s.nx := rfl
      omega) (.inl rfl)
    · first | (rw [set_ot (by omega), ra, hno]; rfl) | (rw [set_at (by omega), hno]; rfl)
    · first | (rw [set_ot (by omega), rb, hno]; rfl) | (rw [set_at (by omega), hno]; rfl)
    · first | (rw [set_ot (by omega), rc, hno]; rfl) | (rw [set_at (by omega), hno]; rfl)
    · first | (rw [set_ot (by omega), rf, hno]; rfl) | (rw [set_at (by omega), hno]; rfl)
    · rw [hhe]
      exact hd0.same (by rw [o5 _ (L0.hbK k (by omega)).2.2, a3 _ (L0.hbK k (by omega)).1])
theorem fr_at (L : LayL thr most M th G H s w C ψ tb hb hv Ks) (I : Inv most K M FL th G0) (E : ExT (th k)) (hm : most < 4294967296) (hk : k < 3) (hq : kd (th k).op = .fr) : AStepOk thr most M th G H s w ψ tb hb hv Ks k := by
  have L0 := L.same (s2 := ent s) rfl rfl
  obtain ⟨R, hR, hRo⟩ := L0.row
  have w7 := par4_w7 L0.par (k := k) (by omega)
  obtain ⟨s1, π1, v1, c1, hQ, a1, a2, a3, a4, a5, _⟩ := par4 L0.par L0.big (show k < 4 by omega) (drop_sr I hk hm E (fun _ => false) (L0.act k hk) hq) (by decide) (by decide)
  have ra := hRo.a k hk
  have rb := hRo.b k hk
  have rc := hRo.c k hk
  have rf := hRo.f k hk
  have rh := hRo.h k hk
  have rl := hRo.len
  rw [hq] at ra rb rc rf
  have hR1 : s1.get tb = some (.cells false R) := by rw [a3 tb L0.tbK.1]; exact hR
  have hd0 := L0.held k (by omega)
  have er : rsOf th G k = (th k).held := by unfold rsOf; rw [if_pos hk]
  rw [er] at hd0
  rcases hQ with ⟨rfl, hP, ho, hkd, hhe⟩ | ⟨rfl, B, C1, hB, rfl, hF⟩
  · have a1 : Sound Tryz.prog (.call 40 [.ptr (ψ k 15) 0, .ptr (ψ k 7) 0] (ent s)) ⟨.ret, [.bool false], s1⟩ := a1
    rw [w7] at a1
    have hx := code_at (as_frn (ent s) s1 tb (9 * k) (w 7) (ψ k 15)) ⟨ld_cell g5A hR ra, ld_cell g5M hR rb, ld_cell g5G hR rc, ld_cell g5F hR rf, ld_cell g5F hR rf, a1, trivial⟩
    refine as_fin hx (L0.fin hk (b' := hb k) (v' := hv k) a2 hP hRo hR1 (a5 10 (by decide)) rl (fun _ _ => rfl) rh ?_ ?_ ?_ ?_ ?_ (fun _ h => h) (fun c hc _ _ => a3 c hc) (.inl rfl)) (.inl ⟨rfl, ho⟩) (fun _ h => h) (fun c hc _ _ => a3 c hc) a4 (.inl rfl)
    · rw [ra, hkd, hq]; rfl
    · rw [rb, hkd, hq]; first | rfl | rw [a5 15 (by decide)]
    · rw [rc, hkd, hq]; rfl
    · rw [rf, hkd, hq]; first | rfl | rw [a5 15 (by decide)]
    · rw [hhe]
      exact hd0.same (a3 _ (L0.hbK k (by omega)).1)
  · have a1 : Sound Tryz.prog (.call 40 [.ptr (ψ k 15) 0, .ptr (ψ k 7) 0] (ent s)) ⟨.ret, [.bool true], s1⟩ := a1
    rw [w7] at a1
    unfold FinQ at hF
    rw [hq] at hF
    obtain ⟨ho, hno, hhe⟩ := hF
    obtain ⟨s2, d1', d2', d3'⟩ := st_one (P := Tryz.prog) (v := .nilPtr) z5F rfl rfl hR1 (show 9 * k + 8 < R.length by omega)
    obtain ⟨P5, o5, q5⟩ := par4_row (a2.subC (k := k) (c' := [] ++ gl k B) (by
      rw [tun_same]
      exact fun x hx => List.mem_append.2 (.inr hx))) L0.tbK d2' d3'
    have hx := code_at (as_fry (ent s) s1 s2 tb (9 * k) (w 7) (ψ k 15)) ⟨ld_cell g5A hR ra, ld_cell g5M hR rb, ld_cell g5G hR rc, ld_cell g5F hR rf, ld_cell g5F hR rf, a1, ⟨d1', rfl⟩, trivial⟩
    have ott : ∀ c ∈ Ks, c ≠ tb → c ≠ hb k → s2.get c = s.get c := fun c hc h1 _ => by rw [o5 c h1, a3 c hc]; rfl
    rw [tun_tun] at P5
    refine as_fin hx (L0.fin hk (b' := hb k) (v' := hv k) P5 ⟨B, [], hB, by unfold opB; rw [hno], rfl⟩ hRo (q5 _ hR1) (a5 10 (by decide)) (by rw [List.length_set]; exact rl) (fun i hi => set_ot (by omega)) (by rw [set_ot (by omega)]; exact rh) ?_ ?_ ?_ ?_ ?_ (fun c h => h) ott (.inl rfl)) (.inl ⟨rfl, ho⟩) (fun c h => h) ott (by
      have : (ent s).nx = s.nx := rfl
      omega) (.inl rfl)
    · first | (rw [set_ot (by omega), ra, hno]; rfl) | (rw [set_at (by omega), hno]; rfl)
    · first | (rw [set_ot (by omega), rb, hno]; rfl) | (rw [set_at (by omega), hno]; rfl)
    · first | (rw [set_ot (by omega), rc, hno]; rfl) | (rw [set_at (by omega), hno]; rfl)
    · first | (rw [set_ot (by omega), rf, hno]; rfl) | (rw [set_at (by omega), hno]; rfl)
    · rw [hhe]
      exact hd0.same (by rw [o5 _ (L0.hbK k (by omega)).2.2, a3 _ (L0.hbK k (by omega)).1])
theorem bigT2 {C : Nat → List (Nat × AObj)} (h : BigC C) {k : Nat} {c0 c : List (Nat × AObj)} (hc : ∀ y ∈ c, 9 ≤ y.1) : BigC (tun (tun C k c0) k c) := by
  rw [tun_tun]
  exact bigT h hc
theorem gone_sr (I : Inv most K M FL th G) (hk : k < 3) (hm : most < 4294967296) (E : ExT (th k)) {P : List (Nat × AObj)} (hP : PartAt k thr most (th k) P) (hq : kd (th k).op = .go) : SR 38 aG M (go most thr (fun _ => false) M (th k)).1 P kG (fun v P' => ∃ sel, StQ k thr most (th k) (go most thr sel M (th k)).2.1 (go most thr sel M (th k)).2.2 v P') := by
  cases ho : (th k).op with
  | rt l z g b e r => exact rt_sr I hk hm ho hP
  | sc y c =>
    by_cases h5 : c = .s5
    · subst h5
      exact s5_sr I hk E ho hP
    · exact sc_sr I hk E h5 ho hP
  | fr y x a b => exact frz_sr I hk hm E ho hP
  | _ => rw [ho] at hq; cases hq
theorem go_mem (sel : Nat → Bool) (t : Th) : (go most thr sel M t).1 = (go most thr (fun _ => false) M t).1 := by
  obtain ⟨held, L, op⟩ := t
  cases op with
  | rt l z g b e r =>
    unfold go
    split <;> rfl
  | sc y c => cases c <;> rfl
  | fr y x a b =>
    show (match fgo most M x with
        | (M', some x') => (M', (⟨held, L, .fr y x' a b⟩ : Th), ([] : List RefP))
        | (M', none) => (M', ⟨held, L, nextF y a b⟩, if a = [] then b else [])).1 = (match fgo most M x with
        | (M', some x') => (M', (⟨held, L, .fr y x' a b⟩ : Th), ([] : List RefP))
        | (M', none) => (M', ⟨held, L, nextF y a b⟩, if a = [] then b else [])).1
    rfl
  | _ => rfl
theorem gone_at (L : LayL thr most M th G H s w C ψ tb hb hv Ks) (I : Inv most K M FL th G0) (E : ExT (th k)) (hm : most < 4294967296) (hk : k < 3) (hq : kd (th k).op = .go) : AStepOk thr most M th G H s w ψ tb hb hv Ks k := by
  have L0 := L.same (s2 := ent s) rfl rfl
  obtain ⟨R, hR, hRo⟩ := L0.row
  have w7 := par4_w7 L0.par (k := k) (by omega)
  obtain ⟨s1, π1, v1, c1, ⟨sel, hQ⟩, a1, a2, a3, a4, a5, _⟩ := par4 L0.par L0.big (show k < 4 by omega) (gone_sr I hk hm E (L0.act k hk) hq) (by decide) (by decide)
  rw [← go_mem sel] at a2
  have ra := hRo.a k hk
  have rb := hRo.b k hk
  have rc := hRo.c k hk
  have rf := hRo.f k hk
  have rh := hRo.h k hk
  have rl := hRo.len
  rw [hq] at ra rb rc rf
  have hR1 : s1.get tb = some (.cells false R) := by rw [a3 tb L0.tbK.1]; exact hR
  have hd0 := L0.held k (by omega)
  have er : rsOf th G k = (th k).held := by unfold rsOf; rw [if_pos hk]
  rw [er] at hd0
  rcases hQ with ⟨rfl, hP, ho, hkd, hhe⟩ | ⟨rfl, B, C1, hB, rfl, hF⟩
  · have a1 : Sound Tryz.prog (.call 38 [.ptr (ψ k 18) 0, .ptr (ψ k 7) 0] (ent s)) ⟨.ret, [.bool false], s1⟩ := a1
    rw [w7] at a1
    have hx := code_at (as_gon (ent s) s1 tb (9 * k) (w 7) (ψ k 18)) ⟨ld_cell g5A hR ra, ld_cell g5M hR rb, ld_cell g5G hR rc, ld_cell g5G hR rc, a1, trivial⟩
    refine as_fin (sel := sel) hx (L0.fin hk (b' := hb k) (v' := hv k) a2 hP hRo hR1 (a5 10 (by decide)) rl (fun _ _ => rfl) rh ?_ ?_ ?_ ?_ ?_ (fun _ h => h) (fun c hc _ _ => a3 c hc) (.inl rfl)) (.inl ⟨rfl, ho⟩) (fun _ h => h) (fun c hc _ _ => a3 c hc) a4 (.inl rfl)
    · rw [ra, hkd, hq]; rfl
    · rw [rb, hkd, hq]; rfl
    · rw [rc, hkd, hq, a5 18 (by decide)]
    · rw [rf, hkd, hq]; rfl
    · rw [hhe]
      exact hd0.same (a3 _ (L0.hbK k (by omega)).1)
  · have a1 : Sound Tryz.prog (.call 38 [.ptr (ψ k 18) 0, .ptr (ψ k 7) 0] (ent s)) ⟨.ret, [.bool true], s1⟩ := a1
    rw [w7] at a1
    have p18 : π1 18 = ψ k 18 := a5 18 (by decide)
    unfold FinQ at hF
    rw [hq] at hF
    obtain ⟨hno, hhe, hF⟩ := hF
    -- what was freed is told
    obtain ⟨s2, π2, c2, v, hc2, b1, b2, b3, b4, b5, hr⟩ : ∃ (s2 : AS) (π2 : Nat → Nat) (c2 : List (Nat × AObj)) (v : AV), (∀ x ∈ [] ++ gl k B, x ∈ c2) ∧ Sound Tryz.prog (.call 39 [.ptr (ψ k 18) 0] s1) ⟨.ret, [v], s2⟩ ∧ Par4 (go most thr sel M (th k)).1 w (tun C k c2) (tun ψ k π2) Ks s2 ∧ (∀ c ∈ Ks, s2.get c = s1.get c) ∧ s1.nx ≤ s2.nx ∧ π2 10 = ψ k 10 ∧
        ((v = .nilSlice ∧ (go most thr sel M (th k)).2.2 = []) ∨ ∃ b, b ≠ tb ∧ v = .slice b 0 (go most thr sel M (th k)).2.2.length (go most thr sel M (th k)).2.2.length ∧ s2.get b = some (.cells false (refsC (go most thr sel M (th k)).2.2)) ∧ (go most thr sel M (th k)).2.2 ≠ [] ∧ (go most thr sel M (th k)).2.2.length ≤ 16) := by
      have n2 : ∀ b ∈ [7, 8, 10], b < 24 ∧ kl [] b = b := by decide
      have n1 : ∀ b ∈ [0, 1, 10, 11, 12, 13], kl [] b = b := by decide
      have sb : ∀ {D : List (Nat × AObj)}, (∀ x ∈ D, x ∈ C1) → ∀ x ∈ D ++ gl k B, x ∈ tun C k (C1 ++ gl k B) k := fun h => by
        rw [tun_same]
        exact fun x hx => (List.mem_append.1 hx).elim (fun hx => List.mem_append.2 (.inl (h x hx))) fun hx => List.mem_append.2 (.inr hx)
      rcases hF with ⟨ho, h18⟩ | ⟨ho, y, m, h18, h9⟩ | ⟨ho, hl, y, m, o, h18, h9, h21⟩
      · have P1 := a2.subC (sb (D := [(18, goO thr most .nilPtr)]) (fun x hx => by rw [List.mem_singleton.1 hx]; exact h18))
        have hg := stp (k_t0 (go most thr sel M (th k)).1 (mapO (go most thr sel M (th k)).1.ms) thr most) trivial (v := .nilSlice) rfl
        obtain ⟨s2, π2, v2, c2, ⟨rfl, rfl⟩, b1, b2, b3, b4, b5, _⟩ := par4 P1 (bigT2 L0.big (big_app (big_of rfl) (gl_big hB))) (show k < 4 by omega) (Q := fun v c => v = .nilSlice ∧ c = [] ++ gl k B) (keep := [7, 8, 10]) (by
          rw [tun_same]
          exact SR.of (SF.fl hB hg n1 (show ∀ b ∈ K4, b ∉ ([18] : List Nat) by decide)) n2 ⟨rfl, rfl⟩) (by decide) (by decide)
        rw [tun_same] at b1
        have b1 : Sound Tryz.prog (.call 39 [.ptr (π1 18) 0] s1) ⟨.ret, [.nilSlice], s2⟩ := b1
        rw [p18] at b1
        rw [tun_tun, tun_tun, tun_tun] at b2
        exact ⟨s2, π2, _, .nilSlice, fun x hx => hx, b1, b2, b3, b4, by rw [b5 10 (by decide), tun_same, a5 10 (by decide)], .inl ⟨rfl, ho⟩⟩
      · have P1 := a2.subC (sb (D := [(18, goO thr most (.ptr 9 0)), (9, scO most .nilIface y m sN .nilSlice .nilSlice)]) (fun x hx => by
          simp only [List.mem_cons, List.not_mem_nil, or_false] at hx
          rcases hx with rfl | rfl
          · exact h18
          · exact h9))
        have hg := stp (k_ta (go most thr sel M (th k)).1 (mapO (go most thr sel M (th k)).1.ms) thr most y m) trivial (v := .nilSlice) rfl
        obtain ⟨s2, π2, v2, c2, ⟨rfl, rfl⟩, b1, b2, b3, b4, b5, _⟩ := par4 P1 (bigT2 L0.big (big_app (big_of rfl) (gl_big hB))) (show k < 4 by omega) (Q := fun v c => v = .nilSlice ∧ c = [] ++ gl k B) (keep := [7, 8, 10]) (by
          rw [tun_same]
          exact SR.of (SF.fl hB hg n1 (show ∀ b ∈ K4, b ∉ ([18, 9] : List Nat) by decide)) n2 ⟨rfl, rfl⟩) (by decide) (by decide)
        rw [tun_same] at b1
        have b1 : Sound Tryz.prog (.call 39 [.ptr (π1 18) 0] s1) ⟨.ret, [.nilSlice], s2⟩ := b1
        rw [p18] at b1
        rw [tun_tun, tun_tun, tun_tun] at b2
        exact ⟨s2, π2, _, .nilSlice, fun x hx => hx, b1, b2, b3, b4, by rw [b5 10 (by decide), tun_same, a5 10 (by decide)], .inl ⟨rfl, ho⟩⟩
      · generalize hgo : (go most thr sel M (th k)).2.2 = out at *
        have P1 := a2.subC (sb (D := [(18, goO thr most (.ptr 9 0)), (9, scO most .nilIface y m sN (.slice 20 o 0 0) (.osl 21 0 out.length 3)), (21, .cells false (refsC out))]) (fun x hx => by
          simp only [List.mem_cons, List.not_mem_nil, or_false] at hx
          rcases hx with rfl | rfl | rfl
          · exact h18
          · exact h9
          · exact h21))
        have hg := tb_step (M := (go most thr sel M (th k)).1) (thr := thr) (most := most) (y := y) (m := m) (o := o) ho (show out.length < 1000 by omega)
        obtain ⟨s2, π2, v2, c2, ⟨rfl, rfl⟩, b1, b2, b3, b4, b5, bA⟩ := par4 P1 (bigT2 L0.big (big_app (big_of rfl) (gl_big hB))) (show k < 4 by omega) (Q := fun v c => v = .slice 22 0 out.length out.length ∧ c = [(22, .cells false (refsC out))] ++ gl k B) (keep := [7, 8, 10]) (by
          rw [tun_same]
          exact SR.of (SF.fl hB hg (by decide) (show ∀ b ∈ K4, b ∉ ([18, 9, 21] : List Nat) by decide)) (by decide) ⟨rfl, rfl⟩) (by decide) (by decide)
        rw [tun_same] at b1
        have b1 : Sound Tryz.prog (.call 39 [.ptr (π1 18) 0] s1) ⟨.ret, [.slice (π2 22) 0 out.length out.length], s2⟩ := b1
        rw [p18] at b1
        have g22 : s2.get (π2 22) = some (.cells false (refsC out)) := by
          have := at_g bA (b := 22) (o := .cells false (refsC out)) (by simp)
          rwa [raw_ren (show (AObj.cells false _).names (fun _ => false) = true from refsC_names _ _)] at this
        have ne : π2 22 ≠ tb := by
          have := (b2.ks tb L0.tbK.1).2 k (by omega) (22, .cells false (refsC out)) (by rw [tun_same]; simp)
          rw [tun_same] at this
          exact this
        rw [tun_tun, tun_tun, tun_tun] at b2
        exact ⟨s2, π2, _, _, fun x hx => List.mem_append.2 (.inr hx), b1, b2, b3, b4, by rw [b5 10 (by decide), tun_same, a5 10 (by decide)], .inr ⟨π2 22, ne, rfl, g22, ho, hl⟩⟩
    have hR2 : s2.get tb = some (.cells false R) := by rw [b3 tb L0.tbK.1]; exact hR1
    obtain ⟨s3, d1', d2', d3'⟩ := st_one (P := Tryz.prog) (v := .nilPtr) z5G rfl rfl hR2 (show 9 * k + 7 < R.length by omega)
    obtain ⟨P5, o5, q5⟩ := par4_row (b2.subC (k := k) (c' := [] ++ gl k B) (by
      rw [tun_same]
      exact hc2)) L0.tbK d2' d3'
    have hx := code_at (as_goy (ent s) s1 s2 s3 tb (9 * k) (w 7) (ψ k 18) v) ⟨ld_cell g5A hR ra, ld_cell g5M hR rb, ld_cell g5G hR rc, ld_cell g5G hR rc, a1, ld_cell g5G hR1 rc, b1, ⟨d1', rfl⟩, trivial⟩
    have ott : ∀ c ∈ Ks, c ≠ tb → c ≠ hb k → s3.get c = s.get c := fun c hc h1 _ => by rw [o5 c h1, b3 c hc, a3 c hc]; rfl
    rw [tun_tun] at P5
    refine as_fin (sel := sel) hx (L0.fin hk (b' := hb k) (v' := hv k) P5 ⟨B, [], hB, by unfold opB; rw [hno], rfl⟩ hRo (q5 _ hR2) b5 (by rw [List.length_set]; exact rl) (fun i hi => set_ot (by omega)) (by rw [set_ot (by omega)]; exact rh) ?_ ?_ ?_ ?_ ?_ (fun c h => h) ott (.inl rfl)) ?_ (fun c h => h) ott (by
      have : (ent s).nx = s.nx := rfl
      omega) (.inl rfl)
    · rw [set_ot (by omega), ra, hno]; rfl
    · rw [set_ot (by omega), rb, hno]; rfl
    · rw [set_at (by omega), hno]; rfl
    · rw [set_ot (by omega), rf, hno]; rfl
    · rw [hhe]
      exact hd0.same (by rw [o5 _ (L0.hbK k (by omega)).2.2, b3 _ (L0.hbK k (by omega)).1, a3 _ (L0.hbK k (by omega)).1])
    · rcases hr with h | ⟨b, h1, h2, h3, h4⟩
      · exact .inl h
      · exact .inr ⟨b, h2, by rw [o5 b h1]; exact h3, h4⟩
theorem astep_at (L : LayL thr most M th G H s w C ψ tb hb hv Ks) (I : Inv most K M FL th G0) (E : ExT (th k)) (hm : most < 4294967296) (hk : k < 3) (hn : (th k).op ≠ .no) : AStepOk thr most M th G H s w ψ tb hb hv Ks k := by
  cases hq : kd (th k).op with
  | no =>
    refine absurd ?_ hn
    cases ho : (th k).op <;> rw [ho] at hq <;> first | rfl | cases hq
  | al => exact al_at L I E hm hk hq
  | mk => exact mk_at L I E hm hk hq
  | go => exact gone_at L I E hm hk hq
  | fr => exact fr_at L I E hm hk hq
end
end Go.Proofs.YtofbdgmknfbkfaaGreatDoor.nodesLife
