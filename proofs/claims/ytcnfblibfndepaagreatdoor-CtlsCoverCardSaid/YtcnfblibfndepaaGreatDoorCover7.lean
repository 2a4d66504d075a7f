/- Parts of a heap with a memory that they share; threads and a Switch, plainly. Conditions: those that each theorem names, and no others. -/
import Derived.Test.YtcnfblibfndepaaGreatDoorMini3
import Derived.Test.YtcnfblibfndepaaGreatDoorCover6
namespace Go.Mini
open Go Go.RowKit
/-! ### A call, where the small heap lies; what the rest of the state holds stays -/
section
variable {P : Program} {bs bs' : List (Nat × AObj)} {Fz : List (Nat × List AV)} {s s1 : AS} {π κ : Nat → Nat} {n0 nx0 : Nat} {new : List Nat}
/-- Where blocks lay and where they come to lie: `s'` is what a call makes of `s`, that touches nothing but what of `bs` lies by `π`. -/
structure Moved (nx0 : Nat) (bs bs' : List (Nat × AObj)) (π π' κ : Nat → Nat) (s s' : AS) : Prop where
  old : ∀ b ∈ bs'.map (·.1), (∃ d ∈ bs.map (·.1), π' b = π d) ∨ s.nx ≤ π' b
  low : ∀ b, b < nx0 → κ b = b → π' b = π b
  rest : ∀ c, c < s.nx → (∀ d ∈ bs.map (·.1), π d ≠ c) → s'.get c = s.get c
  nx : s.nx ≤ s'.nx
/-- A call takes the small heap `bs` to `bs'`, wherever it lies, and touches nothing else. -/
def StepF (P : Program) (Fz : List (Nat × List AV)) (nx0 : Nat) (f : FuncId) (args : List AV) (v : AV) (bs bs' : List (Nat × AObj)) (κ : Nat → Nat) : Prop :=
  ∀ s π, At P bs Fz s π → ∃ s' π', Sound P (.call f (rens π args) s) ⟨.ret, [v.ren π'], s'⟩ ∧ At P bs' Fz s' π' ∧ Moved nx0 bs bs' π π' κ s s'
theorem step_mk {f : FuncId} {args : List AV} {v w : AV} {e : AExit} (h : Sound P (.call f args (canF bs Fz n0 nx0)) ⟨e, [w], s1⟩) (new : List Nat) (K : Kan P bs Fz nx0) (hn : new.Nodup) (hnew : ∀ b ∈ new, nx0 ≤ b ∧ (objAt s1 b).rw = true ∧ (objAt s1 b).names (pN nx0 new) = true)
  (hκg : ∀ g, g < P.globals.size → κ g = g) (hκz : ∀ x ∈ Fz, κ x.1 = x.1) (hκ : eachX (fun b o => (κ b ∈ bs.map (·.1) ∨ κ b ∈ new) ∧ s1.get (κ b) = some (o.ren κ)) bs') (hκi : ∀ b ∈ bs'.map (·.1), ∀ c ∈ bs'.map (·.1), κ b = κ c → b = c)
  (hT : namess (fun b => Nat.blt b nx0) args = true) (hold : eachX (fun b _ => ((objAt s1 b).rw = true ∨ objAt s1 b = .dead) ∧ (objAt s1 b).names (pN nx0 new) = true) bs)
  (hv : w.names (pN nx0 new) = true) (hw : w = v.ren κ) : StepF P Fz nx0 f args v bs bs' κ := by
  intro s π A
  have hp := Sound.putFG h π (fun g hg => ⟨by have := K.glob; omega, A.glob g hg⟩) new s (fun x hx => ⟨(K.fz x hx).1, (K.fz x hx).2.1, (K.fz x hx).2.2, A.fz x hx, fun b hb => A.out b hb x hx⟩)
    (eachX_imp K.ok fun x hx hh => ⟨hh.1, hh.2.1, hh.2.2.1, hh.2.2.2, eachX_mem A.at_ x hx, (eachX_mem hold x hx).1, (eachX_mem hold x hx).2⟩) A.inj K.nodup hn hnew hT
    hv
  rw [hw, ren_comp] at hp
  refine ⟨_, _, hp, At.after A K hnew hκg hκz hκ hκi, ⟨fun b hb => ?_, fun b hb hk => ?_, fun c hc hd => ?_, ?_⟩⟩
  · obtain ⟨y, hy, rfl⟩ := List.mem_map.1 hb
    show (∃ d ∈ bs.map (·.1), pR nx0 new π s.nx (κ y.1) = π d) ∨ s.nx ≤ pR nx0 new π s.nx (κ y.1)
    rcases (eachX_mem hκ y hy).1 with h1 | h1
    · refine .inl ⟨κ y.1, h1, if_pos ?_⟩
      obtain ⟨z, hz, hz2⟩ := List.mem_map.1 h1
      rw [← hz2]
      exact (eachX_mem K.ok z hz).1
    · refine .inr ?_
      have := (hnew _ h1).1
      rw [show pR nx0 new π s.nx (κ y.1) = s.nx + new.idxOf (κ y.1) from if_neg (by omega)]
      omega
  · show pR nx0 new π s.nx (κ b) = _
    rw [hk]
    exact if_pos hb
  · rw [pushL_old (by rw [setL_nx]; exact hc), setL_other (fun hm => ?_)]
    rw [List.map_map] at hm
    obtain ⟨d, hd1, he⟩ := List.mem_map.1 hm
    exact hd d hd1 he
  · rw [pushL_nx, setL_nx]
    omega
theorem keys_sub {bs bs2 : List (Nat × AObj)} (h : ∀ x ∈ bs2, x ∈ bs) : ∀ b ∈ bs2.map (·.1), b ∈ bs.map (·.1) := fun b hb => by
  obtain ⟨x, hx, rfl⟩ := List.mem_map.1 hb
  exact List.mem_map.2 ⟨x, h x hx, rfl⟩
theorem eachX_all {f : Nat → AObj → Prop} : ∀ {bs : List (Nat × AObj)}, (∀ x ∈ bs, f x.1 x.2) → eachX f bs
  | [], _ => trivial
  | x :: _, h => ⟨h x (by simp), eachX_all fun y hy => h y (by simp [hy])⟩
theorem At.sub {bs2 : List (Nat × AObj)} (A : At P bs Fz s π) (h : ∀ x ∈ bs2, x ∈ bs) : At P bs2 Fz s π :=
  ⟨A.glob, A.fz, fun b hb => A.out b (keys_sub h b hb), fun b hb c hc => A.inj b (keys_sub h b hb) c (keys_sub h c hc), eachX_all fun x hx => eachX_mem A.at_ x (h x hx), A.keys⟩
/-- More may lie ahead, less be told behind. -/
theorem StepF.use {f : FuncId} {args : List AV} {v : AV} {b1 b2 : List (Nat × AObj)} (h : StepF P Fz nx0 f args v bs bs' κ) (h1 : ∀ x ∈ bs, x ∈ b1) (h2 : ∀ x ∈ b2, x ∈ bs') : StepF P Fz nx0 f args v b1 b2 κ := fun s π A => by
  obtain ⟨s', π', hS, A', M⟩ := h s π (A.sub h1)
  refine ⟨s', π', hS, A'.sub h2, ⟨fun b hb => ?_, M.low, fun c hc hd => M.rest c hc fun d hd' => hd d (keys_sub h1 d hd'), M.nx⟩⟩
  rcases M.old b (keys_sub h2 b hb) with ⟨d, hd, h3⟩ | h3
  · exact .inl ⟨d, keys_sub h1 d hd, h3⟩
  · exact .inr h3
end
/-! ### Parts: a memory that is shared, and parts of the heap, each with names of its own -/
section
variable {P : Program} {Fz : List (Nat × List AV)}
/-- The parts `C j` (j < N) lie apart from each other, each with the shared blocks `S` (names below 10), which lie at `w`; `Ks` are other blocks. -/
structure Par (P : Program) (Fz : List (Nat × List AV)) (N : Nat) (S : List (Nat × AObj)) (w : Nat → Nat) (C : Nat → List (Nat × AObj)) (ψ : Nat → Nat → Nat) (Ks : List Nat) (s : AS) : Prop where
  at_ : ∀ j, j < N → At P (S ++ C j) Fz s (ψ j)
  sh : ∀ j, j < N → ∀ x ∈ S, ψ j x.1 = w x.1
  dis : ∀ j, j < N → ∀ k, k < N → j ≠ k → ∀ x ∈ C j, ∀ y ∈ C k, ψ j x.1 ≠ ψ k y.1
  ks : ∀ c ∈ Ks, c < s.nx ∧ ∀ j, j < N → ∀ x ∈ S ++ C j, ψ j x.1 ≠ c
def tun {α : Type} (f : Nat → α) (k : Nat) (a : α) : Nat → α := fun j => if j = k then a else f j
theorem tun_same {α : Type} (f : Nat → α) (k : Nat) (a : α) : tun f k a k = a := if_pos rfl
theorem tun_ne {α : Type} (f : Nat → α) {k j : Nat} (a : α) (h : j ≠ k) : tun f k a j = f j := if_neg h
theorem At.lt2 {bs : List (Nat × AObj)} {s : AS} {π : Nat → Nat} (A : At P bs Fz s π) {x : Nat × AObj} (hx : x ∈ bs) : π x.1 < s.nx := A.lt (List.mem_map.2 ⟨x, hx, rfl⟩)
theorem At.inj2 {bs : List (Nat × AObj)} {s : AS} {π : Nat → Nat} (A : At P bs Fz s π) {x y : Nat × AObj} (hx : x ∈ bs) (hy : y ∈ bs) (h : π x.1 = π y.1) : x.1 = y.1 := A.inj _ (List.mem_map.2 ⟨x, hx, rfl⟩) _ (List.mem_map.2 ⟨y, hy, rfl⟩) h
/-- A step of one part: it may turn what is shared. -/
theorem Par.step {N : Nat} {S S2 : List (Nat × AObj)} {w : Nat → Nat} {C : Nat → List (Nat × AObj)} {ψ : Nat → Nat → Nat} {Ks : List Nat} {s : AS} (h : Par P Fz N S w C ψ Ks s) {k : Nat} (hk : k < N) {nx0 : Nat} {f : FuncId} {args : List AV} {v : AV} {c' : List (Nat × AObj)} {κ : Nat → Nat}
    (hs : StepF P Fz nx0 f args v (S ++ C k) (S2 ++ c') κ) (hS : S2.map (·.1) = S.map (·.1)) (hκ : ∀ x ∈ S, x.1 < nx0 ∧ κ x.1 = x.1) (hz : ∀ x ∈ Fz, x.1 < P.globals.size) (hd0 : ∀ j, j < N → ∀ x ∈ S, ∀ y ∈ C j, x.1 ≠ y.1) (hSn : ∀ x ∈ S2, x.2.names (fun b => S.any fun y => Nat.beq y.1 b) = true) :
    ∃ s' π', Sound P (.call f (rens (ψ k) args) s) ⟨.ret, [v.ren π'], s'⟩ ∧ Par P Fz N S2 w (tun C k c') (tun ψ k π') Ks s' ∧ (∀ c ∈ Ks, s'.get c = s.get c) ∧ s.nx ≤ s'.nx ∧ (∀ b, b < nx0 → κ b = b → π' b = ψ k b) ∧ (∀ c, c < s.nx → (∀ x ∈ S ++ C k, ψ k x.1 ≠ c) → s'.get c = s.get c) := by
  obtain ⟨s', π', hS', A', Mv⟩ := hs s (ψ k) (h.at_ k hk)
  have mS : ∀ {x : Nat × AObj}, x ∈ S2 → ∃ y ∈ S, y.1 = x.1 := fun {x} hx => by
    have : x.1 ∈ S.map (·.1) := hS ▸ List.mem_map.2 ⟨x, hx, rfl⟩
    obtain ⟨y, hy, e⟩ := List.mem_map.1 this
    exact ⟨y, hy, e⟩
  have lowS : ∀ x ∈ S, π' x.1 = w x.1 := fun x hx => (Mv.low _ (hκ x hx).1 (hκ x hx).2).trans (h.sh k hk x hx)
  have lowS2 : ∀ x ∈ S2, π' x.1 = w x.1 := fun x hx => by
    obtain ⟨y, hy, e⟩ := mS hx
    rw [← e]
    exact lowS y hy
  -- what lies elsewhere stays
  have rest : ∀ c, c < s.nx → (∀ x ∈ S ++ C k, ψ k x.1 ≠ c) → s'.get c = s.get c := fun c hc hd => Mv.rest c hc fun d hd' => by
    obtain ⟨x, hx, rfl⟩ := List.mem_map.1 hd'
    exact hd x hx
  have apart : ∀ j, j < N → j ≠ k → ∀ y ∈ C j, ∀ x ∈ S ++ C k, ψ k x.1 ≠ ψ j y.1 := fun j hj hjk y hy x hx e => by
    rcases List.mem_append.1 hx with hx | hx
    · rw [h.sh k hk x hx, ← h.sh j hj x hx] at e
      exact hd0 j hj x hx y hy ((h.at_ j hj).inj2 (by simp [hx]) (by simp [hy]) e)
    · exact h.dis k hk j hj (Ne.symm hjk) x hx y hy e
  have keepC : ∀ j, j < N → j ≠ k → ∀ y ∈ C j, s'.get (ψ j y.1) = s.get (ψ j y.1) := fun j hj hjk y hy => rest _ ((h.at_ j hj).lt2 (by simp [hy])) (apart j hj hjk y hy)
  have far : ∀ j, j < N → j ≠ k → ∀ x ∈ c', ∀ y ∈ C j, π' x.1 ≠ ψ j y.1 := fun j hj hjk x hx y hy e => by
    have kx : x.1 ∈ (S2 ++ c').map (·.1) := List.mem_map.2 ⟨x, by simp [hx], rfl⟩
    rcases Mv.old x.1 kx with ⟨d, hd1, h1⟩ | h1
    · obtain ⟨z, hz, rfl⟩ := List.mem_map.1 hd1
      exact apart j hj hjk y hy z hz (h1 ▸ e)
    · have := (h.at_ j hj).lt2 (x := y) (by simp [hy])
      omega
  refine ⟨s', π', hS', ⟨fun j hj => ?_, fun j hj x hx => ?_, fun j hj i hi hji x hx y hy => ?_, fun c hc => ⟨?_, fun j hj x hx => ?_⟩⟩, fun c hc => rest c (h.ks c hc).1 fun x hx => (h.ks c hc).2 k hk x hx, Mv.nx, Mv.low, rest⟩
  · by_cases e : j = k
    · subst e
      rw [tun_same, tun_same]
      exact A'
    · rw [tun_ne _ _ e, tun_ne _ _ e]
      have B := h.at_ j hj
      have sj : ∀ x ∈ S, ψ j x.1 = π' x.1 := fun x hx => (h.sh j hj x hx).trans (lowS x hx).symm
      refine ⟨B.glob, fun x hx => ?_, fun b hb x hx => ?_, fun b hb c hc e2 => ?_, eachX_all fun x hx => ?_, A'.keys⟩
      · obtain ⟨ro, hr⟩ := B.fz x hx
        refine ⟨ro, ?_⟩
        rw [rest _ (B.keys _ (getB_mem hr)) fun y hy e2 => ?_, hr]
        rcases List.mem_append.1 hy with hy | hy
        · rw [h.sh k hk y hy, ← h.sh j hj y hy] at e2
          exact B.out y.1 (List.mem_map.2 ⟨y, by simp [hy], rfl⟩) x hx e2
        · refine (h.at_ k hk).out y.1 (List.mem_map.2 ⟨y, by simp [hy], rfl⟩) x hx ?_
          rw [(h.at_ k hk).glob _ (hz x hx), e2, B.glob _ (hz x hx)]
      · obtain ⟨z, hzm, rfl⟩ := List.mem_map.1 hb
        rcases List.mem_append.1 hzm with hzm | hzm
        · obtain ⟨y, hy, e3⟩ := mS hzm
          rw [← e3]
          exact B.out _ (List.mem_map.2 ⟨y, by simp [hy], rfl⟩) x hx
        · exact B.out _ (List.mem_map.2 ⟨z, by simp [hzm], rfl⟩) x hx
      · obtain ⟨z, hzm, rfl⟩ := List.mem_map.1 hb
        obtain ⟨q, hq, rfl⟩ := List.mem_map.1 hc
        have r : ∀ {z : Nat × AObj}, z ∈ S2 ++ C j → ∃ y ∈ S ++ C j, y.1 = z.1 := fun {z} hzm => by
          rcases List.mem_append.1 hzm with hzm | hzm
          · obtain ⟨y, hy, e3⟩ := mS hzm
            exact ⟨y, by simp [hy], e3⟩
          · exact ⟨z, by simp [hzm], rfl⟩
        obtain ⟨y, hy, e3⟩ := r hzm
        obtain ⟨y2, hy2, e4⟩ := r hq
        rw [← e3, ← e4] at e2 ⊢
        exact B.inj2 hy hy2 e2
      · rcases List.mem_append.1 hx with hx | hx
        · have e5 : ψ j x.1 = π' x.1 := by
            obtain ⟨y, hy, e3⟩ := mS hx
            rw [← e3]
            exact sj y hy
          rw [e5, eachX_mem A'.at_ x (by simp [hx])]
          congr 1
          refine oren_congr (fun b hb => ?_) (hSn x hx)
          obtain ⟨y, hy, e6⟩ := List.any_eq_true.1 hb
          rw [← Nat.eq_of_beq_eq_true e6]
          exact (sj y hy).symm
        · rw [keepC j hj e x hx]
          exact eachX_mem B.at_ x (by simp [hx])
  · by_cases e : j = k
    · subst e
      rw [tun_same]
      exact lowS2 x hx
    · rw [tun_ne _ _ e]
      obtain ⟨y, hy, e3⟩ := mS hx
      rw [← e3]
      exact h.sh j hj y hy
  · by_cases e1 : j = k
    · subst e1
      rw [tun_same] at hx ⊢
      rw [tun_ne _ _ (Ne.symm hji)] at hy ⊢
      exact far i hi (Ne.symm hji) x hx y hy
    · rw [tun_ne _ _ e1] at hx ⊢
      by_cases e2 : i = k
      · subst e2
        rw [tun_same] at hy ⊢
        exact fun e => far j hj e1 y hy x hx e.symm
      · rw [tun_ne _ _ e2] at hy ⊢
        exact h.dis j hj i hi hji x hx y hy
  · have := (h.ks c hc).1
    have := Mv.nx
    omega
  · by_cases e : j = k
    · subst e
      rw [tun_same] at hx ⊢
      intro e
      have kx : x.1 ∈ (S2 ++ c').map (·.1) := List.mem_map.2 ⟨x, hx, rfl⟩
      rcases Mv.old x.1 kx with ⟨d, hd1, h1⟩ | h1
      · obtain ⟨z, hz1, rfl⟩ := List.mem_map.1 hd1
        exact (h.ks c hc).2 j hk z hz1 (h1 ▸ e)
      · have := (h.ks c hc).1
        omega
    · rw [tun_ne _ _ e] at hx ⊢
      rcases List.mem_append.1 hx with hx | hx
      · obtain ⟨y, hy, e3⟩ := mS hx
        rw [← e3]
        exact (h.ks c hc).2 j hj y (by simp [hy])
      · exact (h.ks c hc).2 j hj x (by simp [hx])
end
end Go.Mini
namespace Go.Proofs.YtcnfblibfndepaaGreatDoor.ctlsCover
open Go Go.Mini
/-! ### threads that enter and exit, and a Switch, plainly -/
def aT (k : Nat) (f : Int) : A3 := (8, Int.ofNat k, f)
def aEp : A3 := (1, 0, 0)
def aEra : A3 := (2, 0, 0)
def aBl : A3 := (5, 0, 0)
/-- A mode's schemes, by the phase. -/
def modeP (a b c : Nat) : Nat := if a = 0 then b else if a = 3 then c else b ||| c
/-- A thread: where it is (0: out; 1: it says that it enters; 2 .. 7: lines of its Enter that are left; 8: in; 10 .. 16: lines of its Exit), its mode, the number it saw. -/
structure TS where
  st : Nat
  md : Nat
  nm : Nat
def TS.e (t : TS) : Bool := t.md % 2 == 1
def TS.h (t : TS) : Bool := t.md / 2 % 2 == 1
def TS.i (t : TS) : Bool := t.md / 4 % 2 == 1
def TS.nx (t : TS) : Nat := match t.st with
  | 0 => 1
  | 1 => 2
  | 2 => bif t.e then 3 else bif t.i then 5 else 8
  | 3 => 4
  | 4 => bif t.i then 5 else 8
  | 5 => 6
  | 6 => 7
  | 7 => 8
  | 8 => bif t.e then (bif t.h then 10 else bif t.i then 13 else 15) else bif t.h then 11 else 14
  | 10 => 11
  | 11 => 12
  | 12 => bif t.i then 13 else 15
  | 13 => 14
  | 14 => 15
  | 15 => 16
  | _ => 0
def TS.fld (t : TS) : Int := match t.st with
  | 0 => 1
  | 2 => 2
  | 4 => 3
  | 6 => 4
  | 7 => 5
  | 8 => bif t.e then 3 else bif t.h then 7 else 4
  | 10 => 7
  | 11 => 8
  | 12 => 9
  | 13 => 4
  | 14 => 5
  | 15 => 6
  | _ => 1
def TS.val (t : TS) : Nat := match t.st with
  | 0 => 1
  | 2 => t.nm
  | 4 => 1
  | 6 => 1
  | 7 => 1
  | _ => 0
/-- What a step makes of the memory. -/
def TS.mem (k : Nat) (t : TS) (M : PM) : PM := match t.st with
  | 1 => M.load aP
  | 3 => M.load aEp
  | 5 => M.load aEra
  | _ => M.store (aT k t.fld) t.val
/-- A step of a thread. -/
def TS.step (t : TS) (M : PM) : TS := match t.st with
  | 1 => ⟨2, modeP (cz (getW M.ms aP % 8)) (getW M.ms aP / 8 % 8) (getW M.ms aP / 64 % 8), getW M.ms aP / 65536 % 281474976710656⟩
  | _ => ⟨t.nx, t.md, t.nm⟩
def okM (x : Nat) : Prop := x = 1 ∨ x = 2 ∨ x = 4 ∨ x = 3 ∨ x = 5 ∨ x = 6
/-- The phase's word. -/
structure PhW (M : PM) (a b c n : Nat) : Prop where
  hw : getW M.ms aP = ofp a b c n
  ha : a ≤ 3
  hn : n < 281474976710656
  may : mayP a b c = true
theorem sg_cases {x : Nat} (h : sg x = true) : x = 1 ∨ x = 2 ∨ x = 4 := by
  simpa [sg, or_assoc] using h
theorem may_cases {a b c : Nat} (h : mayP a b c = true) : sg b = true ∧ (a = 0 ∧ c = 0 ∨ a ≠ 0 ∧ sg c = true ∧ c ≠ b) := by
  unfold mayP at h
  by_cases e : a = 0
  · rw [if_pos e] at h
    simp only [Bool.and_eq_true, decide_eq_true_eq] at h
    exact ⟨h.1, .inl ⟨e, h.2⟩⟩
  · rw [if_neg e] at h
    simp only [Bool.and_eq_true, decide_eq_true_eq] at h
    exact ⟨h.1, .inr ⟨e, h.2⟩⟩
theorem may_lt {a b c : Nat} (h : mayP a b c = true) : b < 8 ∧ c < 8 := by
  obtain ⟨h1, h2⟩ := may_cases h
  have := sg_cases h1
  rcases h2 with ⟨_, h2⟩ | ⟨_, h2, _⟩
  · omega
  · have := sg_cases h2
    omega
theorem ofp_dec {a b c n : Nat} (ha : a ≤ 3) (hb : b < 8) (hc : c < 8) (hn : n < 281474976710656) : cz (ofp a b c n % 8) = a ∧ ofp a b c n / 8 % 8 = b ∧ ofp a b c n / 64 % 8 = c ∧ ofp a b c n / 65536 % 281474976710656 = n := by
  have e : cz a = a := if_neg (by omega)
  have m : ofp a b c n % 8 = a := by unfold ofp; rw [e]; omega
  refine ⟨?_, ?_, ?_, ?_⟩
  · rw [m]; exact e
  · unfold ofp; rw [e]; omega
  · unfold ofp; rw [e]; omega
  · unfold ofp; rw [e]; omega
theorem PhW.dec {M : PM} {a b c n : Nat} (h : PhW M a b c n) : cz (getW M.ms aP % 8) = a ∧ getW M.ms aP / 8 % 8 = b ∧ getW M.ms aP / 64 % 8 = c ∧ getW M.ms aP / 65536 % 281474976710656 = n := by
  rw [h.hw]
  exact ofp_dec h.ha (may_lt h.may).1 (may_lt h.may).2 h.hn
theorem mode_ok {a b c : Nat} (h : mayP a b c = true) : okM (modeP a b c) := by
  obtain ⟨h1, h2⟩ := may_cases h
  rcases h2 with ⟨rfl, rfl⟩ | ⟨ha, h2, h3⟩
  · rcases sg_cases h1 with rfl | rfl | rfl <;> simp [modeP, okM]
  · unfold modeP
    rw [if_neg ha]
    rcases sg_cases h1 with rfl | rfl | rfl <;> rcases sg_cases h2 with rfl | rfl | rfl <;> first | exact absurd rfl h3 | (split <;> simp [okM])
/-- What a mode must have, by the phase. -/
def covM (a b c md : Nat) : Prop := (a ≠ 3 → md &&& b ≠ 0) ∧ (2 ≤ a → md &&& c ≠ 0)
theorem mode_cov {a b c : Nat} (ha : a ≤ 3) (h : mayP a b c = true) : covM a b c (modeP a b c) := by
  obtain ⟨h1, h2⟩ := may_cases h
  rcases h2 with ⟨rfl, rfl⟩ | ⟨h0, h2, h3⟩
  · rcases sg_cases h1 with rfl | rfl | rfl <;> simp [modeP, covM]
  · have : a = 1 ∨ a = 2 ∨ a = 3 := by omega
    rcases this with rfl | rfl | rfl <;> rcases sg_cases h1 with rfl | rfl | rfl <;> rcases sg_cases h2 with rfl | rfl | rfl <;> first | exact absurd rfl h3 | simp [modeP, covM]
/-- A number that was the phase's, at most D changes ago. -/
def aged (D x n : Nat) : Prop := x < 281474976710656 ∧ ∃ d, d ≤ D ∧ (x + d) % 281474976710656 = n
theorem aged_mono {D E x n : Nat} (h : aged D x n) (hE : D ≤ E) : aged E x n := by
  obtain ⟨h1, d, h2, h3⟩ := h
  exact ⟨h1, d, by omega, h3⟩
theorem aged_mo {D x n : Nat} (h : aged D x n) : aged (D + 1) x (mo n) := by
  obtain ⟨h1, d, h2, h3⟩ := h
  refine ⟨h1, d + 1, by omega, ?_⟩
  unfold mo
  omega
theorem aged_fresh {D x n : Nat} (h : aged D x n) (hD : D < 100000) : x ≠ mo n := by
  obtain ⟨h1, d, h2, h3⟩ := h
  unfold mo
  omega
theorem aged_self {n : Nat} (h : n < 281474976710656) : aged 0 n n := ⟨h, 0, Nat.le_refl _, by omega⟩
theorem aged_rch {D x n : Nat} (h : aged D x n) (hD : D < 100000) (hr : rch n x = true) : x = n := by
  obtain ⟨h1, d, h2, h3⟩ := h
  unfold rch at hr
  simp only [decide_eq_true_eq] at hr
  omega
/-- What holds of a thread. -/
structure TI (k : Nat) (t : TS) (M : PM) (a b c n D : Nat) : Prop where
  st : t.st ≤ 16 ∧ t.st ≠ 9
  md : 2 ≤ t.st → okM t.md
  nm : 2 ≤ t.st → aged D t.nm n
  own : getW M.ms (aT k 0) = 1
  inn : getW M.ms (aT k 1) = 0 → t.st = 0
  stl : getW M.ms (aT k 6) = 0
  ack : aged D (getW M.ms (aT k 2)) n
  cur : 2 ≤ t.st → getW M.ms (aT k 2) = n → t.nm = n
  new : 2 ≤ t.st → t.nm = n → t.md = modeP a b c
  cov : 2 ≤ t.st → covM a b c t.md
theorem get_store {M : PM} {a : A3} {u : Nat} (h : mayA a = true) (b : A3) : getW (M.store a u).ms b = if b = a then u else getW M.ms b := by
  unfold PM.store
  rw [if_pos h]
  exact get_put a u M.ms b
theorem mayT {k : Nat} {f : Int} (hk : k < 4) (h0 : 0 ≤ f) (h1 : f < 10) : mayA (aT k f) = true := by
  show (decide (0 ≤ Int.ofNat k) && decide (Int.ofNat k < 16) && decide (0 ≤ f) && decide (f < 10)) = true
  simp only [Bool.and_eq_true, decide_eq_true_eq, Int.ofNat_eq_natCast]
  omega
theorem fld_r (t : TS) : 0 ≤ t.fld ∧ t.fld < 10 := by
  unfold TS.fld
  split <;> first | decide | (cases t.e <;> cases t.h <;> decide)
theorem aT_inj {k j : Nat} {f g : Int} (h : aT k f = aT j g) : k = j ∧ f = g := by
  simp only [aT, Prod.mk.injEq, true_and, Int.ofNat_eq_natCast] at h
  exact ⟨by omega, h.2⟩
/-- A thread's step leaves what is not its own. -/
theorem TS.mem_get {k : Nat} (hk : k < 4) (t : TS) (M : PM) (a : A3) (h : ∀ f, a ≠ aT k f) : getW (t.mem k M).ms a = getW M.ms a := by
  unfold TS.mem
  split
  · rfl
  · rfl
  · rfl
  · rw [get_store (mayT hk (fld_r t).1 (fld_r t).2), if_neg (h _)]
theorem TS.mem_own {k : Nat} (hk : k < 4) (t : TS) (M : PM) (f : Int) : getW (t.mem k M).ms (aT k f) = if (t.st ≠ 1 ∧ t.st ≠ 3 ∧ t.st ≠ 5) ∧ f = t.fld then t.val else getW M.ms (aT k f) := by
  unfold TS.mem
  split
  · rename_i h
    rw [if_neg (by omega)]
    rfl
  · rename_i h
    rw [if_neg (by omega)]
    rfl
  · rename_i h
    rw [if_neg (by omega)]
    rfl
  · rename_i h1 h2 h3
    rw [get_store (mayT hk (fld_r t).1 (fld_r t).2)]
    by_cases e : f = t.fld
    · subst e
      rw [if_pos rfl, if_pos ⟨⟨h1, h2, h3⟩, rfl⟩]
    · rw [if_neg (fun h => e (aT_inj h).2), if_neg (fun h => e h.2)]
theorem PhW.thread {M : PM} {a b c n k : Nat} (h : PhW M a b c n) (hk : k < 4) (t : TS) : PhW (t.mem k M) a b c n :=
  ⟨by rw [t.mem_get hk M aP (fun f e => by simp [aP, aT] at e), h.hw], h.ha, h.hn, h.may⟩
/-- Another one's step. -/
theorem TI.other {k j : Nat} (hk : k < 4) (hj : j ≠ k) {t u : TS} {M : PM} {a b c n D : Nat} (h : TI j t M a b c n D) : TI j t (u.mem k M) a b c n D := by
  have e : ∀ f, getW (u.mem k M).ms (aT j f) = getW M.ms (aT j f) := fun f => u.mem_get hk M _ fun g e => hj (aT_inj e).1
  exact ⟨h.st, h.md, h.nm, by rw [e]; exact h.own, by rw [e]; exact h.inn, by rw [e]; exact h.stl, by rw [e]; exact h.ack, by rw [e]; exact h.cur, h.new, h.cov⟩
theorem st_cases {t : Nat} (h : t ≤ 16 ∧ t ≠ 9) : t = 0 ∨ t = 1 ∨ t = 2 ∨ t = 3 ∨ t = 4 ∨ t = 5 ∨ t = 6 ∨ t = 7 ∨ t = 8 ∨ t = 10 ∨ t = 11 ∨ t = 12 ∨ t = 13 ∨ t = 14 ∨ t = 15 ∨ t = 16 := by omega
/-- Its own step. -/
theorem TI.own_step {k : Nat} (hk : k < 4) {t : TS} {M : PM} {a b c n D : Nat} (h : TI k t M a b c n D) (hP : PhW M a b c n) : TI k (t.step M) (t.mem k M) a b c n D := by
  have e := fun f => t.mem_own hk M f
  obtain ⟨st, md, nm⟩ := t
  have hs : st ≤ 16 ∧ st ≠ 9 := h.st
  by_cases h1 : st = 1
  · subst h1
    obtain ⟨d1, d2, d3, d4⟩ := hP.dec
    have hS : TS.step ⟨1, md, nm⟩ M = ⟨2, modeP a b c, n⟩ := by
      show (⟨2, modeP (cz (getW M.ms aP % 8)) (getW M.ms aP / 8 % 8) (getW M.ms aP / 64 % 8), getW M.ms aP / 65536 % 281474976710656⟩ : TS) = _
      rw [d1, d2, d3, d4]
    rw [hS]
    have e : ∀ f, getW (TS.mem k ⟨1, md, nm⟩ M).ms (aT k f) = getW M.ms (aT k f) := fun f => rfl
    exact ⟨by simp, fun _ => mode_ok hP.may, fun _ => aged_mono (aged_self hP.hn) (Nat.zero_le _), by rw [e]; exact h.own, fun hi => by
      rw [e] at hi
      exact absurd (h.inn hi) (by simp), by rw [e]; exact h.stl, by rw [e]; exact h.ack, fun _ _ => rfl, fun _ _ => rfl, fun _ => mode_cov hP.ha hP.may⟩
  · have hS : TS.step ⟨st, md, nm⟩ M = ⟨TS.nx ⟨st, md, nm⟩, md, nm⟩ := by
      unfold TS.step
      split
      · rename_i h2
        exact absurd h2 h1
      · rfl
    rw [hS]
    have hn : (TS.nx ⟨st, md, nm⟩ ≤ 16 ∧ TS.nx ⟨st, md, nm⟩ ≠ 9) ∧ (2 ≤ TS.nx ⟨st, md, nm⟩ → 2 ≤ st) ∧ (TS.nx ⟨st, md, nm⟩ ≠ 0 → TS.fld ⟨st, md, nm⟩ = 1 → TS.val ⟨st, md, nm⟩ = 1 ∨ st = 3 ∨ st = 5) ∧ (TS.fld ⟨st, md, nm⟩ = 2 → st = 2) ∧ (TS.fld ⟨st, md, nm⟩ = 6 → TS.val ⟨st, md, nm⟩ = 0) ∧ TS.fld ⟨st, md, nm⟩ ≠ 0 ∧ (TS.nx ⟨st, md, nm⟩ ≠ 0 → st ≠ 0 ∨ TS.fld ⟨st, md, nm⟩ = 1) := by
      rcases st_cases hs with rfl | rfl | rfl | rfl | rfl | rfl | rfl | rfl | rfl | rfl | rfl | rfl | rfl | rfl | rfl | rfl <;> (try (exact absurd rfl h1)) <;> simp only [TS.nx, TS.fld, TS.val, TS.e, TS.h, TS.i] <;> cases (md % 2 == 1) <;> cases (md / 2 % 2 == 1) <;> cases (md / 4 % 2 == 1) <;> simp
    obtain ⟨n1, n2, n3, n4, n5, n6, n7⟩ := hn
    have kp : ∀ f : Int, f ≠ TS.fld ⟨st, md, nm⟩ → getW (TS.mem k ⟨st, md, nm⟩ M).ms (aT k f) = getW M.ms (aT k f) := fun f hf => by
      rw [e, if_neg (fun h => hf h.2)]
    have ack : getW (TS.mem k ⟨st, md, nm⟩ M).ms (aT k 2) = getW M.ms (aT k 2) ∨ st = 2 ∧ getW (TS.mem k ⟨st, md, nm⟩ M).ms (aT k 2) = nm := by
      by_cases hf : (2 : Int) = TS.fld ⟨st, md, nm⟩
      · have h2 := n4 hf.symm
        subst h2
        exact .inr ⟨rfl, by rw [e, if_pos ⟨⟨by simp, by simp, by simp⟩, hf⟩]; rfl⟩
      · exact .inl (kp 2 hf)
    refine ⟨n1, fun h2 => h.md (n2 h2), fun h2 => h.nm (n2 h2), ?_, fun hi => ?_, ?_, ?_, fun h2 hc => ?_, fun h2 => h.new (n2 h2), fun h2 => h.cov (n2 h2)⟩
    · rw [kp 0 (Ne.symm n6)]
      exact h.own
    · show TS.nx _ = 0
      rw [e] at hi
      refine Classical.byContradiction fun hne => ?_
      by_cases hf : (st ≠ 1 ∧ st ≠ 3 ∧ st ≠ 5) ∧ (1 : Int) = TS.fld ⟨st, md, nm⟩
      · rw [if_pos hf] at hi
        rcases n3 hne hf.2.symm with h2 | h2 | h2
        · omega
        · exact hf.1.2.1 h2
        · exact hf.1.2.2 h2
      · rw [if_neg hf] at hi
        have h0 : st = 0 := h.inn hi
        subst h0
        exact hf ⟨⟨by simp, by simp, by simp⟩, rfl⟩
    · rw [e]
      split
      · rename_i hf
        exact n5 hf.2.symm
      · exact h.stl
    · rcases ack with h2 | ⟨h2, h3⟩
      · rw [h2]
        exact h.ack
      · rw [h3]
        exact h.nm (by show 2 ≤ st; omega)
    · rcases ack with h3 | ⟨h3, h4⟩
      · rw [h3] at hc
        exact h.cur (n2 h2) hc
      · rw [h4] at hc
        exact hc
end Go.Proofs.YtcnfblibfndepaaGreatDoor.ctlsCover
namespace Go.Proofs.YtcnfblibfndepaaGreatDoor.ctlsCover
open Go Go.Mini
/-! ### all of it, plainly -/
def seen (n : Nat) (t : TS) : Prop := 2 ≤ t.st → t.nm = n
def tunP (ts : Nat → TS) (k : Nat) (t : TS) : Nat → TS := fun j => if j = k then t else ts j
/-- What holds of the memory and the threads. -/
structure WI (M : PM) (a b c n D : Nat) (ts : Nat → TS) : Prop where
  ph : PhW M a b c n
  bl : getW M.ms aBl = 1
  ep : getW M.ms aEp = 0
  er : getW M.ms aEra = 0
  lt : ∀ x, getW M.ms x < 18446744073709551616
  th : ∀ k, k < 4 → TI k (ts k) M a b c n D
theorem TI.load {k : Nat} {t : TS} {M : PM} {a b c n D : Nat} (h : TI k t M a b c n D) (x : A3) : TI k t (M.load x) a b c n D := ⟨h.st, h.md, h.nm, h.own, h.inn, h.stl, h.ack, h.cur, h.new, h.cov⟩
theorem WI.load {M : PM} {a b c n D : Nat} {ts : Nat → TS} (h : WI M a b c n D ts) (x : A3) : WI (M.load x) a b c n D ts := ⟨⟨h.ph.hw, h.ph.ha, h.ph.hn, h.ph.may⟩, h.bl, h.ep, h.er, h.lt, fun k hk => (h.th k hk).load x⟩
theorem TI.mono {k : Nat} {t : TS} {M : PM} {a b c n D E : Nat} (h : TI k t M a b c n D) (hE : D ≤ E) : TI k t M a b c n E := ⟨h.st, h.md, fun h2 => aged_mono (h.nm h2) hE, h.own, h.inn, h.stl, aged_mono h.ack hE, h.cur, h.new, h.cov⟩
theorem WI.mono {M : PM} {a b c n D E : Nat} {ts : Nat → TS} (h : WI M a b c n D ts) (hE : D ≤ E) : WI M a b c n E ts := ⟨h.ph, h.bl, h.ep, h.er, h.lt, fun k hk => (h.th k hk).mono hE⟩
theorem WI.thread {M : PM} {a b c n D : Nat} {ts : Nat → TS} (h : WI M a b c n D ts) {k : Nat} (hk : k < 4) : WI ((ts k).mem k M) a b c n D (tunP ts k ((ts k).step M)) := by
  have T := h.th k hk
  refine ⟨h.ph.thread hk _, ?_, ?_, ?_, fun x => ?_, fun j hj => ?_⟩
  · rw [TS.mem_get hk _ M aBl fun f e => by simp [aBl, aT] at e]
    exact h.bl
  · rw [TS.mem_get hk _ M aEp fun f e => by simp [aEp, aT] at e]
    exact h.ep
  · rw [TS.mem_get hk _ M aEra fun f e => by simp [aEra, aT] at e]
    exact h.er
  · by_cases e : ∃ f, x = aT k f
    · obtain ⟨f, rfl⟩ := e
      rw [TS.mem_own hk]
      split
      · unfold TS.val
        split <;> first | decide | skip
        rename_i h2
        have := (T.nm (by omega)).1
        omega
      · exact h.lt _
    · rw [TS.mem_get hk _ M x fun f e2 => e ⟨f, e2⟩]
      exact h.lt x
  · unfold tunP
    by_cases e : j = k
    · subst e
      rw [if_pos rfl]
      exact T.own_step hk h.ph
    · rw [if_neg e]
      exact (h.th j hj).other hk e
theorem nx_two {t : TS} (h : t.st ≤ 16 ∧ t.st ≠ 9) (h2 : 2 ≤ t.nx) : 1 ≤ t.st := by
  obtain ⟨st, md, nm⟩ := t
  rcases Nat.eq_zero_or_pos st with rfl | h
  · exact absurd h2 (by simp [TS.nx])
  · exact h
theorem seen_step {M : PM} {a b c n : Nat} (hP : PhW M a b c n) {t : TS} (hs : t.st ≤ 16 ∧ t.st ≠ 9) (h : seen n t) : seen n (t.step M) := by
  obtain ⟨st, md, nm⟩ := t
  intro h2
  by_cases h1 : st = 1
  · subst h1
    exact hP.dec.2.2.2
  · have hS : TS.step ⟨st, md, nm⟩ M = ⟨TS.nx ⟨st, md, nm⟩, md, nm⟩ := by
      unfold TS.step
      split
      · rename_i h2
        exact absurd h2 h1
      · rfl
    rw [hS] at h2 ⊢
    have : 1 ≤ st := nx_two (t := ⟨st, md, nm⟩) hs h2
    exact h (show 2 ≤ st by omega)
structure BI (br : Br) (n : Nat) (ts : Nat → TS) : Prop where
  num : br.num = n
  all : br.at_ ≠ 0 → br.all = 4
  sn : ∀ j, j < br.th → seen n (ts j)
theorem bar_bi {M : PM} {a b c n D : Nat} {ts : Nat → TS} (h : WI M a b c n D ts) (hD : D < 100000) {br : Br} (hB : br.Ok) (hI : BI br n ts) : ((br.step (getW M.ms br.adr)).2 = 0 → BI (br.step (getW M.ms br.adr)).1 n ts) ∧ ((br.step (getW M.ms br.adr)).2 = 1 → ∀ j, j < 4 → seen n (ts j)) := by
  obtain ⟨num, lk, th, all, at_, wt⟩ := br
  obtain ⟨h1, h2, h3, h4, h5, h6, h7⟩ := hB
  obtain ⟨i1, i2, i3⟩ := hI
  simp only at h1 h2 h3 h4 h5 h6 h7 i1 i2 i3
  by_cases e0 : at_ = 0
  · subst e0
    have hv : getW M.ms (Br.adr ⟨num, lk, th, all, 0, wt⟩) = 1 := h.bl
    rw [hv]
    have : Br.step ⟨num, lk, th, all, 0, wt⟩ 1 = (⟨num, lk, 0, 4, 1, -1⟩, 0) := rfl
    rw [this]
    exact ⟨fun _ => ⟨i1, fun _ => rfl, fun j hj => absurd hj (Nat.not_lt_zero j)⟩, fun h => absurd h (by simp)⟩
  · have a4 := i2 e0
    have t4 : th < 4 := by have := h7 e0; omega
    have T := h.th th t4
    have hv : Br.adr ⟨num, lk, th, all, at_, wt⟩ = aT th (fldN at_) := if_neg e0
    rw [hv]
    have pass : Br.passes ⟨num, lk, th, all, at_, wt⟩ (getW M.ms (aT th (fldN at_))) = true → seen n (ts th) := fun hp => by
      have c4 : at_ = 1 ∨ at_ = 2 ∨ at_ = 3 ∨ at_ = 4 := by omega
      rcases c4 with rfl | rfl | rfl | rfl
      · unfold Br.passes at hp
        simp only at hp
        rw [if_neg (by decide), if_neg (by decide)] at hp
        have hp : decide (getW M.ms (aT th 0) = 0) = true := hp
        rw [T.own] at hp
        exact absurd hp (by decide)
      · unfold Br.passes at hp
        simp only at hp
        rw [if_neg (by decide), if_neg (by decide)] at hp
        have hp : decide (getW M.ms (aT th 1) = 0) = true := hp
        have := T.inn (of_decide_eq_true hp)
        intro h2
        omega
      · unfold Br.passes at hp
        simp only at hp
        rw [if_pos trivial] at hp
        have ef : fldN 3 = 2 := rfl
        rw [i1, ef] at hp
        exact fun h2 => T.cur h2 (aged_rch T.ack hD hp)
      · unfold Br.passes at hp
        simp only at hp
        rw [if_neg (by decide), if_pos trivial] at hp
        have ef : fldN 4 = 6 := rfl
        rw [ef, T.stl] at hp
        exact absurd hp (by decide)
    have snx : Br.passes ⟨num, lk, th, all, at_, wt⟩ (getW M.ms (aT th (fldN at_))) = true → ∀ j, j < th + 1 → seen n (ts j) := fun hp j hj => by
      by_cases e : j = th
      · subst e
        exact pass hp
      · exact i3 j (by omega)
    generalize getW M.ms (aT th (fldN at_)) = v at snx
    unfold Br.step
    simp only
    rw [if_neg e0]
    by_cases hp : Br.passes ⟨num, lk, th, all, at_, wt⟩ v = true
    · rw [if_pos hp]
      simp only
      refine ⟨fun _ => ⟨i1, fun _ => a4, snx hp⟩, fun h j hj => snx hp j ?_⟩
      split at h
      · omega
      · cases h
    · rw [if_neg hp]
      by_cases e4 : at_ = 4
      · rw [if_pos e4]
        by_cases el : lk ≤ 1
        · rw [if_pos el]
          exact ⟨fun h => absurd h (by simp), fun h => absurd h (by simp)⟩
        · rw [if_neg el]
          exact ⟨fun _ => ⟨i1, fun _ => a4, i3⟩, fun h => absurd h (by simp)⟩
      · rw [if_neg e4]
        exact ⟨fun _ => ⟨i1, fun _ => a4, i3⟩, fun h => absurd h (by simp)⟩
def XP (σ : SS) (to a b c n : Nat) (ts : Nat → TS) : Prop := match σ.ln with
  | 2 => a = 0 ∧ to ≠ b
  | 3 => a = 1 ∧ c = to ∧ BI σ.br n ts
  | 4 => a = 1 ∧ c = to ∧ ∀ j, j < 4 → seen n (ts j)
  | 5 => a = 2 ∧ c = to
  | 6 => a = 3 ∧ c = to
  | 7 => a = 3 ∧ c = to
  | _ => a = 1
/-- What holds of a Switch that is under way. -/
structure XI (σ : SS) (to : Nat) (lk : Int) (a b c n : Nat) (ts : Nat → TS) : Prop where
  ok : σ.Ok to lk
  ln : 2 ≤ σ.ln
  hw : σ.w = ofp a b c n
  p : σ.a = a ∧ σ.b = b ∧ σ.c = c ∧ σ.n = n
  sg : sg to = true
  x : XP σ to a b c n ts
theorem BI.thread {br : Br} {n : Nat} {ts : Nat → TS} {k : Nat} {t : TS} (h : BI br n ts) (ht : seen n (ts k) → seen n t) : BI br n (tunP ts k t) := ⟨h.num, h.all, fun j hj => by
  unfold tunP
  by_cases e : j = k
  · subst e
    rw [if_pos rfl]
    exact ht (h.sn j hj)
  · rw [if_neg e]
    exact h.sn j hj⟩
theorem XI.thread {σ : SS} {to : Nat} {lk : Int} {M : PM} {a b c n D : Nat} {ts : Nat → TS} (X : XI σ to lk a b c n ts) (W : WI M a b c n D ts) {k : Nat} (hk : k < 4) : XI σ to lk a b c n (tunP ts k ((ts k).step M)) := by
  have hs : seen n (ts k) → seen n ((ts k).step M) := seen_step W.ph (W.th k hk).st
  refine ⟨X.ok, X.ln, X.hw, X.p, X.sg, ?_⟩
  have hx := X.x
  unfold XP at hx ⊢
  split at hx
  · exact hx
  · exact ⟨hx.1, hx.2.1, hx.2.2.thread hs⟩
  · refine ⟨hx.1, hx.2.1, fun j hj => ?_⟩
    unfold tunP
    by_cases e : j = k
    · subst e
      rw [if_pos rfl]
      exact hs (hx.2.2 j hj)
    · rw [if_neg e]
      exact hx.2.2 j hj
  · exact hx
  · exact hx
  · exact hx
  · exact hx
def endP (e : Nat) (a b c n a' b' c' n' to : Nat) : Prop :=
  e = 0 ∧ a' = 0 ∧ b' = to ∨ e = 9 ∧ (a' = 0 ∧ b' = b ∧ a = 1 ∨ a' = 3 ∧ (a' = a ∧ b' = b ∧ c' = c ∧ n' = n) ∧ c' = to) ∨ e = 8 ∧ (a' = a ∧ b' = b ∧ c' = c ∧ n' = n) ∧ a' = 0 ∧ b' = to ∨ e = 7 ∧ (a' = a ∧ b' = b ∧ c' = c ∧ n' = n) ∧ a' ≠ 0
/-- The phase moves. -/
theorem TI.phase {k : Nat} {t : TS} {M : PM} {a b c n D : Nat} (h : TI k t M a b c n D) (hD : D < 100000) {M' : PM} (e : ∀ f, getW M'.ms (aT k f) = getW M.ms (aT k f)) {a' b' c' : Nat} (hc : 2 ≤ t.st → covM a' b' c' t.md) : TI k t M' a' b' c' (mo n) (D + 1) :=
  ⟨h.st, h.md, fun h2 => aged_mo (h.nm h2), by rw [e]; exact h.own, by rw [e]; exact h.inn, by rw [e]; exact h.stl, by rw [e]; exact aged_mo h.ack, fun h2 h3 => by
    rw [e] at h3
    exact absurd h3 (aged_fresh h.ack hD), fun h2 h3 => absurd h3 (aged_fresh (h.nm h2) hD), hc⟩
theorem cas_ms {M : PM} {w u : Nat} (h : M.casd aP w = true) : (M.cas aP w u).ms = putW M.ms aP u := by
  unfold PM.cas
  rw [if_pos h]
theorem WI.phase {M : PM} {a b c n D : Nat} {ts : Nat → TS} (W : WI M a b c n D ts) (hD : D < 100000) {w a' b' c' : Nat} (hw : M.casd aP w = true) (ha : a' ≤ 3) (hm : mayP a' b' c' = true) (hc : ∀ k, k < 4 → 2 ≤ (ts k).st → covM a' b' c' (ts k).md) : WI (M.cas aP w (ofp a' b' c' (mo n))) a' b' c' (mo n) (D + 1) ts := by
  have g : ∀ x, getW (M.cas aP w (ofp a' b' c' (mo n))).ms x = if x = aP then ofp a' b' c' (mo n) else getW M.ms x := fun x => by
    rw [cas_ms hw]
    exact get_put aP _ _ x
  refine ⟨⟨by rw [g, if_pos rfl], ha, mo_lt n, hm⟩, by rw [g, if_neg (by simp [aBl, aP])]; exact W.bl, by rw [g, if_neg (by simp [aEp, aP])]; exact W.ep, by rw [g, if_neg (by simp [aEra, aP])]; exact W.er, fun x => ?_, fun k hk => (W.th k hk).phase hD (fun f => by rw [g, if_neg (by simp [aT, aP])]) (hc k hk)⟩
  rw [g]
  split
  · exact ofp_lt _ _ _ _
  · exact W.lt x
theorem sw_ok {σ : SS} {to : Nat} {lk : Int} {M : PM} (h : σ.Ok to lk) (l0 : -9223372036854775808 ≤ lk) (l1 : lk ≤ 40) (hm : ∀ x, getW M.ms x < 18446744073709551616) (h0 : (σ.step to lk M).1.ln ≠ 0) : (σ.step to lk M).1.Ok to lk := SS.step_ok h l0 l1 (k := M.ms.length) ⟨hm, Nat.le_refl _⟩ h0
theorem band_or {b c : Nat} (hb : b = 1 ∨ b = 2 ∨ b = 4) (hc : c = 1 ∨ c = 2 ∨ c = 4) : (b ||| c) &&& b ≠ 0 ∧ (b ||| c) &&& c ≠ 0 := by
  rcases hb with rfl | rfl | rfl <;> rcases hc with rfl | rfl | rfl <;> decide
/-- A step of the Switch. -/
theorem sw_step {σ : SS} {to : Nat} {lk : Int} {M : PM} {a b c n D : Nat} {ts : Nat → TS} (W : WI M a b c n D ts) (hD : D < 100000) (X : XI σ to lk a b c n ts) (l0 : -9223372036854775808 ≤ lk) (l1 : lk ≤ 40) :
    ∃ a' b' c' n', WI (σ.step to lk M).2 a' b' c' n' (D + 1) ts ∧ ((σ.step to lk M).1.ln ≠ 0 → XI (σ.step to lk M).1 to lk a' b' c' n' ts) ∧ ((σ.step to lk M).1.ln = 0 → (a' = 0 ∨ a' = 3) ∧ endP (σ.step to lk M).1.en a b c n a' b' c' n' to) := by
  have OK : (σ.step to lk M).1.ln ≠ 0 → (σ.step to lk M).1.Ok to lk := sw_ok X.ok l0 l1 W.lt
  obtain ⟨ln, en, w, wt, xa, xb, xc, xn, br⟩ := σ
  obtain ⟨⟨k1, k2⟩, k3, k4, k5, k6, k7, k8, k9, k10⟩ := X.ok
  have hln := X.ln
  have hw := X.hw
  obtain ⟨p1, p2, p3, p4⟩ := X.p
  have hsg := X.sg
  have hx := X.x
  simp only at k1 k2 k3 k4 k5 k6 k7 k8 k9 k10 hln hw p1 p2 p3 p4
  subst hw p1 p2 p3 p4 k3
  obtain ⟨s1, s2⟩ := may_cases W.ph.may
  have hcd : M.casd aP (ofp xa xb xc xn) = true := by
    unfold PM.casd
    rw [W.ph.hw]
    simp [mayA, inR, rmK, aP]
  have cov1 := fun k hk h2 => (W.th k hk).cov h2
  have hc : ln = 2 ∨ ln = 3 ∨ ln = 4 ∨ ln = 5 ∨ ln = 6 ∨ ln = 7 ∨ ln = 8 := by omega
  rcases hc with rfl | rfl | rfl | rfl | rfl | rfl | rfl
  · -- begins
    obtain ⟨rfl, h2⟩ : xa = 0 ∧ to ≠ xb := hx
    obtain rfl : xc = 0 := by rcases s2 with ⟨_, h⟩ | ⟨h, _⟩ <;> first | exact h | exact absurd rfl h
    have hm : mayP 1 xb to = true := by simp [mayP, s1, hsg, h2]
    have hb : bg4 0 xb 0 xn to = (1, xb, to, mo xn) := by
      have hp : begP 0 xb 0 xn to = (phC 1 xb to (mo xn), 0) := by
        unfold begP
        rw [if_neg (by rw [W.ph.may, hsg]; decide), if_neg (by decide), if_neg h2]
      unfold bg4
      rw [hp, if_pos rfl]
    have hS : SS.step ⟨2, 4, ofp 0 xb 0 xn, wt, 0, xb, 0, xn, br⟩ to lk M = (⟨3, 4, ofp 1 xb to (mo xn), wt, 1, xb, to, mo xn, newB (mo xn) lk⟩, M.cas aP (ofp 0 xb 0 xn) (ofp 1 xb to (mo xn))) := by
      show SS.swp ⟨2, 4, ofp 0 xb 0 xn, wt, 0, xb, 0, xn, br⟩ lk M (bg4 0 xb 0 xn to).1 (bg4 0 xb 0 xn to).2.1 (bg4 0 xb 0 xn to).2.2.1 (bg4 0 xb 0 xn to).2.2.2 3 4 = _
      rw [hb]
      unfold SS.swp
      rw [if_pos hcd]
    rw [hS] at OK ⊢
    exact ⟨1, xb, to, mo xn, W.phase hD hcd (by decide) hm fun k hk h2 => ⟨fun _ => (cov1 k hk h2).1 (by decide), fun h => absurd h (by decide)⟩, fun h => ⟨OK h, by show 2 ≤ 3; decide, rfl, ⟨rfl, rfl, rfl, rfl⟩, hsg, ⟨rfl, rfl, ⟨rfl, fun h => absurd rfl h, fun j hj => absurd hj (Nat.not_lt_zero j)⟩⟩⟩, fun h => absurd h (by simp)⟩
  · -- looks, announced
    obtain ⟨rfl, rfl, hI⟩ : xa = 1 ∧ xc = to ∧ BI br xn ts := hx
    have hB : br.Ok := k10 rfl
    obtain ⟨q1, q2⟩ := bar_bi W hD hB hI
    have hS : SS.step ⟨3, 4, ofp 1 xb xc xn, wt, 1, xb, xc, xn, br⟩ xc lk M = (SS.bar ⟨3, 4, ofp 1 xb xc xn, wt, 1, xb, xc, xn, br⟩ (br.step (getW M.ms br.adr)), M.load br.adr) := rfl
    rw [hS] at OK ⊢
    refine ⟨1, xb, xc, xn, (W.load _).mono (by omega), ?_, ?_⟩
    · intro h
      have hO := OK h
      unfold SS.bar at hO ⊢
      rcases step_k br (getW M.ms br.adr) with e | e | e
      · rw [if_pos e] at hO ⊢
        exact ⟨hO, by show 2 ≤ 3; decide, rfl, ⟨rfl, rfl, rfl, rfl⟩, hsg, ⟨rfl, rfl, q1 e⟩⟩
      · rw [if_neg (by omega), if_pos e] at hO ⊢
        exact ⟨hO, by show 2 ≤ 4; decide, rfl, ⟨rfl, rfl, rfl, rfl⟩, hsg, ⟨rfl, rfl, q2 e⟩⟩
      · rw [if_neg (by omega), if_neg (by omega), if_pos rfl] at hO ⊢
        exact ⟨hO, by show 2 ≤ 8; decide, rfl, ⟨rfl, rfl, rfl, rfl⟩, hsg, rfl⟩
    · intro h
      unfold SS.bar at h
      rcases step_k br (getW M.ms br.adr) with e | e | e
      · rw [if_pos e] at h
        exact absurd h (by simp)
      · rw [if_neg (by omega), if_pos e] at h
        exact absurd h (by simp)
      · rw [if_neg (by omega), if_neg (by omega), if_pos rfl] at h
        exact absurd h (by simp)
  · -- on to dual
    obtain ⟨rfl, rfl, hq⟩ : xa = 1 ∧ xc = to ∧ ∀ j, j < 4 → seen xn (ts j) := hx
    obtain ⟨hsc, hne⟩ : sg xc = true ∧ xc ≠ xb := by rcases s2 with ⟨h, _⟩ | ⟨_, h⟩ <;> first | exact h | cases h
    have hm : mayP 2 xb xc = true := by simp [mayP, s1, hsc, hne]
    have hb : nx4 1 xb xc xn = (2, xb, xc, mo xn) := by
      unfold nx4
      rw [if_pos ⟨W.ph.may, by decide⟩, if_pos rfl]
    have hS : SS.step ⟨4, 4, ofp 1 xb xc xn, wt, 1, xb, xc, xn, br⟩ xc lk M = (⟨5, 4, ofp 2 xb xc (mo xn), wt, 2, xb, xc, mo xn, newB (mo xn) lk⟩, M.cas aP (ofp 1 xb xc xn) (ofp 2 xb xc (mo xn))) := by
      show SS.swp ⟨4, 4, ofp 1 xb xc xn, wt, 1, xb, xc, xn, br⟩ lk M (nx4 1 xb xc xn).1 (nx4 1 xb xc xn).2.1 (nx4 1 xb xc xn).2.2.1 (nx4 1 xb xc xn).2.2.2 5 4 = _
      rw [hb]
      unfold SS.swp
      rw [if_pos hcd]
    rw [hS] at OK ⊢
    have o2 := band_or (sg_cases s1) (sg_cases hsc)
    exact ⟨2, xb, xc, mo xn, W.phase hD hcd (by decide) hm fun k hk h2 => by
      rw [(W.th k hk).new h2 (hq k hk h2)]
      exact ⟨fun _ => o2.1, fun _ => o2.2⟩, fun h => ⟨OK h, by show 2 ≤ 5; decide, rfl, ⟨rfl, rfl, rfl, rfl⟩, hsg, ⟨rfl, rfl⟩⟩, fun h => absurd h (by simp)⟩
  · -- on to drain
    obtain ⟨rfl, rfl⟩ : xa = 2 ∧ xc = to := hx
    obtain ⟨hsc, hne⟩ : sg xc = true ∧ xc ≠ xb := by rcases s2 with ⟨h, _⟩ | ⟨_, h⟩ <;> first | exact h | cases h
    have hm : mayP 3 xb xc = true := by simp [mayP, s1, hsc, hne]
    have hb : nx4 2 xb xc xn = (3, xb, xc, mo xn) := by
      unfold nx4
      rw [if_pos ⟨W.ph.may, by decide⟩, if_neg (by decide), if_pos rfl]
    have hS : SS.step ⟨5, 4, ofp 2 xb xc xn, wt, 2, xb, xc, xn, br⟩ xc lk M = (⟨6, 4, ofp 3 xb xc (mo xn), wt, 3, xb, xc, mo xn, newB (mo xn) lk⟩, M.cas aP (ofp 2 xb xc xn) (ofp 3 xb xc (mo xn))) := by
      show SS.swp ⟨5, 4, ofp 2 xb xc xn, wt, 2, xb, xc, xn, br⟩ lk M (nx4 2 xb xc xn).1 (nx4 2 xb xc xn).2.1 (nx4 2 xb xc xn).2.2.1 (nx4 2 xb xc xn).2.2.2 6 4 = _
      rw [hb]
      unfold SS.swp
      rw [if_pos hcd]
    rw [hS] at OK ⊢
    exact ⟨3, xb, xc, mo xn, W.phase hD hcd (by decide) hm fun k hk h2 => ⟨fun h => absurd rfl h, fun _ => (cov1 k hk h2).2 (by decide)⟩, fun h => ⟨OK h, by show 2 ≤ 6; decide, rfl, ⟨rfl, rfl, rfl, rfl⟩, hsg, ⟨rfl, rfl⟩⟩, fun h => absurd h (by simp)⟩
  · -- looks, drained
    obtain ⟨rfl, rfl⟩ : xa = 3 ∧ xc = to := hx
    have hS : SS.step ⟨6, 4, ofp 3 xb xc xn, wt, 3, xb, xc, xn, br⟩ xc lk M = (SS.bar ⟨6, 4, ofp 3 xb xc xn, wt, 3, xb, xc, xn, br⟩ (br.step (getW M.ms br.adr)), M.load br.adr) := rfl
    rw [hS] at OK ⊢
    refine ⟨3, xb, xc, xn, (W.load _).mono (by omega), ?_, ?_⟩
    · intro h
      have hO := OK h
      unfold SS.bar at hO h ⊢
      rcases step_k br (getW M.ms br.adr) with e | e | e
      · rw [if_pos e] at hO ⊢
        exact ⟨hO, by show 2 ≤ 6; decide, rfl, ⟨rfl, rfl, rfl, rfl⟩, hsg, ⟨rfl, rfl⟩⟩
      · rw [if_neg (by omega), if_pos e] at hO ⊢
        exact ⟨hO, by show 2 ≤ 7; decide, rfl, ⟨rfl, rfl, rfl, rfl⟩, hsg, ⟨rfl, rfl⟩⟩
      · rw [if_neg (by omega), if_neg (by omega), if_neg (show ¬ (6 : Nat) = 3 by decide)] at h
        exact absurd rfl h
    · intro h
      unfold SS.bar at h ⊢
      rcases step_k br (getW M.ms br.adr) with e | e | e
      · rw [if_pos e] at h
        exact absurd h (by simp)
      · rw [if_neg (by omega), if_pos e] at h
        exact absurd h (by simp)
      · rw [if_neg (by omega), if_neg (by omega), if_neg (show ¬ (6 : Nat) = 3 by decide)]
        exact ⟨.inr rfl, .inr (.inl ⟨rfl, .inr ⟨rfl, ⟨rfl, rfl, rfl, rfl⟩, rfl⟩⟩)⟩
  · -- over
    obtain ⟨rfl, rfl⟩ : xa = 3 ∧ xc = to := hx
    obtain ⟨hsc, hne⟩ : sg xc = true ∧ xc ≠ xb := by rcases s2 with ⟨h, _⟩ | ⟨_, h⟩ <;> first | exact h | cases h
    have hm : mayP 0 xc 0 = true := by simp [mayP, hsc]
    have hb : nx4 3 xb xc xn = (0, xc, 0, mo xn) := by
      unfold nx4
      rw [if_pos ⟨W.ph.may, by decide⟩, if_neg (by decide), if_neg (by decide)]
    have hS : SS.step ⟨7, 4, ofp 3 xb xc xn, wt, 3, xb, xc, xn, br⟩ xc lk M = (⟨0, 0, ofp 0 xc 0 (mo xn), wt, 0, xc, 0, mo xn, newB (mo xn) lk⟩, M.cas aP (ofp 3 xb xc xn) (ofp 0 xc 0 (mo xn))) := by
      show SS.swp ⟨7, 4, ofp 3 xb xc xn, wt, 3, xb, xc, xn, br⟩ lk M (nx4 3 xb xc xn).1 (nx4 3 xb xc xn).2.1 (nx4 3 xb xc xn).2.2.1 (nx4 3 xb xc xn).2.2.2 0 0 = _
      rw [hb]
      unfold SS.swp
      rw [if_pos hcd]
    rw [hS]
    exact ⟨0, xc, 0, mo xn, W.phase hD hcd (by decide) hm fun k hk h2 => ⟨fun _ => (cov1 k hk h2).2 (by decide), fun h => absurd h (by decide)⟩, fun h => absurd rfl h, fun _ => ⟨.inl rfl, .inl ⟨rfl, rfl, rfl⟩⟩⟩
  · -- back
    obtain rfl : xa = 1 := hx
    have hm : mayP 0 xb 0 = true := by simp [mayP, s1]
    have hS : SS.step ⟨8, 4, ofp 1 xb xc xn, wt, 1, xb, xc, xn, br⟩ to lk M = (⟨0, 9, ofp 0 xb 0 (mo xn), wt, 0, xb, 0, mo xn, newB (mo xn) lk⟩, M.cas aP (ofp 1 xb xc xn) (ofp 0 xb 0 (mo xn))) := by
      show SS.swp ⟨8, 4, ofp 1 xb xc xn, wt, 1, xb, xc, xn, br⟩ lk M 0 xb 0 (mo xn) 0 9 = _
      unfold SS.swp
      rw [if_pos hcd]
    rw [hS]
    exact ⟨0, xb, 0, mo xn, W.phase hD hcd (by decide) hm fun k hk h2 => ⟨fun _ => (cov1 k hk h2).1 (by decide), fun h => absurd h (by decide)⟩, fun h => absurd rfl h, fun _ => ⟨.inl rfl, .inr (.inl ⟨rfl, .inl ⟨rfl, rfl, rfl⟩⟩)⟩⟩
/-- The first one. -/
theorem sw_first {to : Nat} {lk : Int} {M : PM} {a b c n D : Nat} {ts : Nat → TS} (W : WI M a b c n D ts) (h03 : a = 0 ∨ a = 3) (hsg : sg to = true) (l0 : -9223372036854775808 ≤ lk) (l1 : lk ≤ 40) {σ : SS} (hO : σ.Ok to lk) (h1 : σ.ln = 1) :
    ((σ.step to lk M).1.ln ≠ 0 → XI (σ.step to lk M).1 to lk a b c n ts) ∧ ((σ.step to lk M).1.ln = 0 → endP (σ.step to lk M).1.en a b c n a b c n to) ∧ (σ.step to lk M).2 = M.load aP := by
  have OK : (σ.step to lk M).1.ln ≠ 0 → (σ.step to lk M).1.Ok to lk := sw_ok hO l0 l1 W.lt
  obtain ⟨ln, en, w, wt, xa, xb, xc, xn, br⟩ := σ
  obtain rfl : ln = 1 := h1
  have hS : SS.step ⟨1, en, w, wt, xa, xb, xc, xn, br⟩ to lk M = (SS.one ⟨1, en, w, wt, xa, xb, xc, xn, br⟩ to lk (getW M.ms aP), M.load aP) := rfl
  rw [hS] at OK ⊢
  obtain ⟨d1, d2, d3, d4⟩ := W.ph.dec
  obtain ⟨s1, s2⟩ := may_cases W.ph.may
  have hw := W.ph.hw
  generalize getW M.ms aP = v at hw d1 d2 d3 d4 OK ⊢
  unfold SS.one at OK ⊢
  rw [d1, d2, d3, d4] at OK ⊢
  rw [W.ph.may] at OK ⊢
  rcases h03 with rfl | rfl
  · obtain rfl : c = 0 := by rcases s2 with ⟨_, h⟩ | ⟨h, _⟩ <;> first | exact h | exact absurd rfl h
    have g : (true && decide (0 = 3) && decide (0 = to)) = false := rfl
    rw [if_neg (by simp)] at OK ⊢
    have hb : begP 0 b 0 n to = if to = b then (phC 0 0 0 0, 8) else (phC 1 b to (mo n), 0) := by
      unfold begP
      rw [if_neg (by rw [W.ph.may, hsg]; decide), if_neg (by decide)]
    rw [hb] at OK ⊢
    by_cases e : to = b
    · rw [if_pos e] at OK ⊢
      rw [if_neg (by simp)] at OK ⊢
      exact ⟨fun h => absurd rfl h, fun _ => .inr (.inr (.inl ⟨rfl, ⟨rfl, rfl, rfl, rfl⟩, rfl, e.symm⟩)), rfl⟩
    · rw [if_neg e] at OK ⊢
      rw [if_pos rfl] at OK ⊢
      exact ⟨fun h => ⟨OK h, by show 2 ≤ 2; decide, hw, ⟨rfl, rfl, rfl, rfl⟩, hsg, ⟨rfl, e⟩⟩, fun h => absurd h (by simp), rfl⟩
  · by_cases e : c = to
    · subst e
      rw [if_pos (by simp)] at OK ⊢
      exact ⟨fun h => ⟨OK h, by show 2 ≤ 6; decide, hw, ⟨rfl, rfl, rfl, rfl⟩, hsg, ⟨rfl, rfl⟩⟩, fun h => absurd h (by simp), rfl⟩
    · rw [if_neg (by simp [e])] at OK ⊢
      have hb : (begP 3 b c n to).2 = 7 := by
        unfold begP
        rw [if_neg (by rw [W.ph.may, hsg]; decide), if_pos (by decide)]
      rw [hb] at OK ⊢
      rw [if_neg (by decide)] at OK ⊢
      exact ⟨fun h => absurd rfl h, fun _ => .inr (.inr (.inr ⟨rfl, ⟨rfl, rfl, rfl, rfl⟩, by decide⟩)), rfl⟩
end Go.Proofs.YtcnfblibfndepaaGreatDoor.ctlsCover
