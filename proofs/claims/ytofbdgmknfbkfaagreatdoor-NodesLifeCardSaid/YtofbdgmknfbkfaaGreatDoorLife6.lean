/- Calls at canonical names, looked at. Conditions: those that each theorem names, and no others. -/
import Derived.Test.YtofbdgmknfbkfaaGreatDoorMini3
import Derived.Test.YtofbdgmknfbkfaaGreatDoorLife5
namespace Go.Mini
open Go Go.RowKit
/-! ### A call, where the small heap lies; what the rest of the state holds stays -/
section
variable {P : Program} {bs bs' : List (Nat × AObj)} {Fz : List (Nat × List AV)} {s s1 : AS} {π κ : Nat → Nat} {n0 nx0 : Nat} {new : List Nat}
/-- Where blocks lay and where they come to lie: `s'` is what a call makes of `s`, that touches nothing but what of `bs` lies by `π`. -/
structure Moved (nx0 : Nat) (bs bs' : List (Nat × AObj)) (π π' κ : Nat → Nat) (s s' : AS) : Prop where
  old : ∀ b ∈ bs'.map (·.1), (∃ d ∈ bs.map (·.1), π' b = π d) ∨ s.nx ≤ π' b
  low : ∀ b, b < nx0 → κ b = b → π' b = π b
  rest : ∀ c, c < s.nx → (∀ d ∈ bs.map (·.1), π d ≠ c) → s'.get c = s.get c
  nx : s.nx ≤ s'.nx
/-- A call takes the small heap `bs` to `bs'`, wherever it lies, and touches nothing else. -/
def StepF (P : Program) (Fz : List (Nat × List AV)) (nx0 : Nat) (f : FuncId) (args : List AV) (v : AV) (bs bs' : List (Nat × AObj)) (κ : Nat → Nat) : Prop :=
  ∀ s π, At P bs Fz s π → ∃ s' π', Sound P (.call f (rens π args) s) ⟨.ret, [v.ren π'], s'⟩ ∧ At P bs' Fz s' π' ∧ Moved nx0 bs bs' π π' κ s s'
theorem step_mk {f : FuncId} {args : List AV} {v w : AV} {e : AExit} (h : Sound P (.call f args (canF bs Fz n0 nx0)) ⟨e, [w], s1⟩) (new : List Nat) (K : Kan P bs Fz nx0) (hn : new.Nodup) (hnew : ∀ b ∈ new, nx0 ≤ b ∧ (objAt s1 b).rw = true ∧ (objAt s1 b).names (pN nx0 new) = true)
  (hκg : ∀ g, g < P.globals.size → κ g = g) (hκz : ∀ x ∈ Fz, κ x.1 = x.1) (hκ : eachX (fun b o => (κ b ∈ bs.map (·.1) ∨ κ b ∈ new) ∧ s1.get (κ b) = some (o.ren κ)) bs') (hκi : ∀ b ∈ bs'.map (·.1), ∀ c ∈ bs'.map (·.1), κ b = κ c → b = c)
  (hT : namess (fun b => Nat.blt b nx0) args = true) (hold : eachX (fun b _ => ((objAt s1 b).rw = true ∨ objAt s1 b = .dead) ∧ (objAt s1 b).names (pN nx0 new) = true) bs)
  (hv : w.names (pN nx0 new) = true) (hw : w = v.ren κ) : StepF P Fz nx0 f args v bs bs' κ := by
  intro s π A
  have hp := Sound.putFG h π (fun g hg => ⟨by have := K.glob; omega, A.glob g hg⟩) new s (fun x hx => ⟨(K.fz x hx).1, (K.fz x hx).2.1, (K.fz x hx).2.2, A.fz x hx, fun b hb => A.out b hb x hx⟩)
    (eachX_imp K.ok fun x hx hh => ⟨hh.1, hh.2.1, hh.2.2.1, hh.2.2.2, eachX_mem A.at_ x hx, (eachX_mem hold x hx).1, (eachX_mem hold x hx).2⟩) A.inj K.nodup hn hnew hT
    hv
  rw [hw, ren_comp] at hp
  refine ⟨_, _, hp, At.after A K hnew hκg hκz hκ hκi, ⟨fun b hb => ?_, fun b hb hk => ?_, fun c hc hd => ?_, ?_⟩⟩
  · obtain ⟨y, hy, rfl⟩ := List.mem_map.1 hb
    show (∃ d ∈ bs.map (·.1), pR nx0 new π s.nx (κ y.1) = π d) ∨ s.nx ≤ pR nx0 new π s.nx (κ y.1)
    rcases (eachX_mem hκ y hy).1 with h1 | h1
    · refine .inl ⟨κ y.1, h1, if_pos ?_⟩
      obtain ⟨z, hz, hz2⟩ := List.mem_map.1 h1
      rw [← hz2]
      exact (eachX_mem K.ok z hz).1
    · refine .inr ?_
      have := (hnew _ h1).1
      rw [show pR nx0 new π s.nx (κ y.1) = s.nx + new.idxOf (κ y.1) from if_neg (by omega)]
      omega
  · show pR nx0 new π s.nx (κ b) = _
    rw [hk]
    exact if_pos hb
  · rw [pushL_old (by rw [setL_nx]; exact hc), setL_other (fun hm => ?_)]
    rw [List.map_map] at hm
    obtain ⟨d, hd1, he⟩ := List.mem_map.1 hm
    exact hd d hd1 he
  · rw [pushL_nx, setL_nx]
    omega
theorem keys_sub {bs bs2 : List (Nat × AObj)} (h : ∀ x ∈ bs2, x ∈ bs) : ∀ b ∈ bs2.map (·.1), b ∈ bs.map (·.1) := fun b hb => by
  obtain ⟨x, hx, rfl⟩ := List.mem_map.1 hb
  exact List.mem_map.2 ⟨x, h x hx, rfl⟩
theorem eachX_all {f : Nat → AObj → Prop} : ∀ {bs : List (Nat × AObj)}, (∀ x ∈ bs, f x.1 x.2) → eachX f bs
  | [], _ => trivial
  | x :: _, h => ⟨h x (by simp), eachX_all fun y hy => h y (by simp [hy])⟩
theorem At.sub {bs2 : List (Nat × AObj)} (A : At P bs Fz s π) (h : ∀ x ∈ bs2, x ∈ bs) : At P bs2 Fz s π :=
  ⟨A.glob, A.fz, fun b hb => A.out b (keys_sub h b hb), fun b hb c hc => A.inj b (keys_sub h b hb) c (keys_sub h c hc), eachX_all fun x hx => eachX_mem A.at_ x (h x hx), A.keys⟩
/-- More may lie ahead, less be told behind. -/
theorem StepF.use {f : FuncId} {args : List AV} {v : AV} {b1 b2 : List (Nat × AObj)} (h : StepF P Fz nx0 f args v bs bs' κ) (h1 : ∀ x ∈ bs, x ∈ b1) (h2 : ∀ x ∈ b2, x ∈ bs') : StepF P Fz nx0 f args v b1 b2 κ := fun s π A => by
  obtain ⟨s', π', hS, A', M⟩ := h s π (A.sub h1)
  refine ⟨s', π', hS, A'.sub h2, ⟨fun b hb => ?_, M.low, fun c hc hd => M.rest c hc fun d hd' => hd d (keys_sub h1 d hd'), M.nx⟩⟩
  rcases M.old b (keys_sub h2 b hb) with ⟨d, hd, h3⟩ | h3
  · exact .inl ⟨d, keys_sub h1 d hd, h3⟩
  · exact .inr h3
end
/-! ### Parts: a memory that is shared, and parts of the heap, each with names of its own -/
section
variable {P : Program} {Fz : List (Nat × List AV)}
/-- The parts `C j` (j < N) lie apart from each other, each with the shared blocks `S` (names below 10), which lie at `w`; `Ks` are other blocks. -/
structure Par (P : Program) (Fz : List (Nat × List AV)) (N : Nat) (S : List (Nat × AObj)) (w : Nat → Nat) (C : Nat → List (Nat × AObj)) (ψ : Nat → Nat → Nat) (Ks : List Nat) (s : AS) : Prop where
  at_ : ∀ j, j < N → At P (S ++ C j) Fz s (ψ j)
  sh : ∀ j, j < N → ∀ x ∈ S, ψ j x.1 = w x.1
  dis : ∀ j, j < N → ∀ k, k < N → j ≠ k → ∀ x ∈ C j, ∀ y ∈ C k, ψ j x.1 ≠ ψ k y.1
  ks : ∀ c ∈ Ks, c < s.nx ∧ ∀ j, j < N → ∀ x ∈ S ++ C j, ψ j x.1 ≠ c
def tun {α : Type} (f : Nat → α) (k : Nat) (a : α) : Nat → α := fun j => if j = k then a else f j
theorem tun_same {α : Type} (f : Nat → α) (k : Nat) (a : α) : tun f k a k = a := if_pos rfl
theorem tun_ne {α : Type} (f : Nat → α) {k j : Nat} (a : α) (h : j ≠ k) : tun f k a j = f j := if_neg h
theorem At.lt2 {bs : List (Nat × AObj)} {s : AS} {π : Nat → Nat} (A : At P bs Fz s π) {x : Nat × AObj} (hx : x ∈ bs) : π x.1 < s.nx := A.lt (List.mem_map.2 ⟨x, hx, rfl⟩)
theorem At.inj2 {bs : List (Nat × AObj)} {s : AS} {π : Nat → Nat} (A : At P bs Fz s π) {x y : Nat × AObj} (hx : x ∈ bs) (hy : y ∈ bs) (h : π x.1 = π y.1) : x.1 = y.1 := A.inj _ (List.mem_map.2 ⟨x, hx, rfl⟩) _ (List.mem_map.2 ⟨y, hy, rfl⟩) h
end
end Go.Mini
namespace Go.Proofs.YtofbdgmknfbkfaaGreatDoor.nodesLife
open Go Go.Mini
/-! ### a call at canonical names, looked at: what it is wherever it lies -/
abbrev GF : List (Nat × List AV) := G2
def kl (l : List (Nat × Nat)) (b : Nat) : Nat := match l with
  | [] => b
  | (x, y) :: t => bif Nat.beq x b then y else kl t b
def nodB : List Nat → Bool
  | [] => true
  | x :: l => !(l.any fun y => Nat.beq x y) && nodB l
def inB (l : List Nat) (b : Nat) : Bool := l.any fun y => Nat.beq y b
/-- A question that is told; or one of a call in a state that is the run's own: what is known of that state. -/
inductive QI where
  | fix (q : Qst)
  | call (f : FuncId) (args : List AV) (v : AV) (t : AS → AS) (see : List (Nat × AObj))
  | ld (t : TypeId) (a v : AV) (see : List (Nat × AObj))
  | app (t t2 : TypeId) (x y v : AV) (tf : AS → AS) (nx : Nat) (see : List (Nat × AObj))
  | lk (t : TypeId) (m k : AV) (ok : Bool) (v : AV) (see : List (Nat × AObj))
  | upd (t : TypeId) (m k x : AV) (tf : AS → AS) (see : List (Nat × AObj))
structure GD where
  f : FuncId
  args : List AV
  C : List (Nat × AObj)
  C' : List (Nat × AObj)
  kl : List (Nat × Nat)
  new : List Nat
  w : AV
  decs : List Dec
  qs : List QI
def qS1 : Qst → AS
  | .snd (.call _ _ s) _ => s
  | .ld _ s _ _ => s
  | .app s _ _ _ _ _ _ => s
  | .lk _ s _ _ _ _ => s
  | .upd _ s _ _ _ _ _ => s
  | _ => ⟨⟨[], 0, none, []⟩, 0⟩
def nxO (n : Nat) : Option AObj := some (.cells false [.int .i64 (Int.ofNat n)])
def mkQ : List QI → List Qst → List Qst
  | [], _ => []
  | .fix q :: l, x => q :: mkQ l (x.drop 1)
  | .call f a v t _ :: l, x => .snd (.call f a (qS1 (x.headD (.val none undefA)))) ⟨.ret, [v], t (qS1 (x.headD (.val none undefA)))⟩ :: mkQ l (x.drop 1)
  | .ld t a v _ :: l, x => .ld t (qS1 (x.headD (.val none undefA))) a v :: mkQ l (x.drop 1)
  | .app t t2 a b v tf _ _ :: l, x => .app (qS1 (x.headD (.val none undefA))) t t2 a b v (tf (qS1 (x.headD (.val none undefA)))) :: mkQ l (x.drop 1)
  | .lk t m k ok v _ :: l, x => .lk t (qS1 (x.headD (.val none undefA))) m k ok v :: mkQ l (x.drop 1)
  | .upd t m k a tf _ :: l, x => .upd t (qS1 (x.headD (.val none undefA))) m k a undefA (tf (qS1 (x.headD (.val none undefA)))) :: mkQ l (x.drop 1)
def seeL : List QI → List Qst → List (Option AObj)
  | [], _ => []
  | .fix _ :: l, x => seeL l (x.drop 1)
  | .call _ _ _ _ see :: l, x => see.map (fun y => (qS1 (x.headD (.val none undefA))).get y.1) ++ seeL l (x.drop 1)
  | .ld _ _ _ see :: l, x => see.map (fun y => (qS1 (x.headD (.val none undefA))).get y.1) ++ seeL l (x.drop 1)
  | .lk _ _ _ _ _ see :: l, x => see.map (fun y => (qS1 (x.headD (.val none undefA))).get y.1) ++ seeL l (x.drop 1)
  | .upd _ _ _ _ _ see :: l, x => see.map (fun y => (qS1 (x.headD (.val none undefA))).get y.1) ++ seeL l (x.drop 1)
  | .app _ _ _ _ _ _ _ see :: l, x => (nxO (qS1 (x.headD (.val none undefA))).nx :: see.map (fun y => (qS1 (x.headD (.val none undefA))).get y.1)) ++ seeL l (x.drop 1)
def seeR : List QI → List (Option AObj)
  | [] => []
  | .fix _ :: l => seeR l
  | .call _ _ _ _ see :: l => see.map (fun y => some y.2) ++ seeR l
  | .ld _ _ _ see :: l => see.map (fun y => some y.2) ++ seeR l
  | .lk _ _ _ _ _ see :: l => see.map (fun y => some y.2) ++ seeR l
  | .upd _ _ _ _ _ see :: l => see.map (fun y => some y.2) ++ seeR l
  | .app _ _ _ _ _ _ n see :: l => (nxO n :: see.map (fun y => some y.2)) ++ seeR l
def oldB (s : AS) (new : List Nat) (b : Nat) : Bool := ((objAt s b).rw || (match objAt s b with | .dead => true | _ => false)) && (objAt s b).names (pN 24 new)
def newB2 (s : AS) (new : List Nat) (b : Nat) : Bool := (objAt s b).rw && (objAt s b).names (pN 24 new)
noncomputable def GD.run (g : GD) (O7 O8 : AObj) : Option (Res × List Dec × List Qst) := runX Tryz.prog none_ 90 g.f (.call g.f g.args (canF ((7, O7) :: (8, O8) :: g.C) GF (g.C.length + 4) 24)) g.decs
abbrev LK : Type := List AV × (Option AObj × Option AObj) × List (Option AObj) × Bool × List Qst × List (Option AObj)
def GD.lk (g : GD) (x : Res × List Dec × List Qst) : LK := (x.1.ts, (x.1.s.get 7, x.1.s.get 8), g.C'.map (fun y => x.1.s.get (Go.Proofs.YtofbdgmknfbkfaaGreatDoor.nodesLife.kl g.kl y.1)), (g.C.all (fun y => oldB x.1.s g.new y.1) && g.new.all (newB2 x.1.s g.new)), x.2.2, seeL g.qs x.2.2)
def GD.want (g : GD) (P7 P8 : AObj) (x : Res × List Dec × List Qst) : LK := ([g.w], (some P7, some P8), g.C'.map (fun y => some (y.2.ren (Go.Proofs.YtofbdgmknfbkfaaGreatDoor.nodesLife.kl g.kl))), true, mkQ g.qs x.2.2, seeR g.qs)
noncomputable def GD.L (g : GD) (O7 O8 : AObj) : Option LK := match g.run O7 O8 with
  | some x => some (g.lk x)
  | none => none
noncomputable def GD.R (g : GD) (O7 O8 P7 P8 : AObj) : Option LK := match g.run O7 O8 with
  | some x => some (g.want P7 P8 x)
  | none => some ([], (none, none), [], true, [], [])
def GD.stat (g : GD) : Bool := g.C.all (fun y => Nat.ble 9 y.1 && (Nat.blt y.1 24 && (y.2.rw && y.2.names (fun c => Nat.blt c 24)))) && (nodB (g.C.map (·.1)) && (nodB g.new && (g.new.all (Nat.ble 24) &&
  (g.C'.all (fun y => Nat.ble 9 y.1 && (inB (g.C.map (·.1)) (Go.Proofs.YtofbdgmknfbkfaaGreatDoor.nodesLife.kl g.kl y.1) || inB g.new (Go.Proofs.YtofbdgmknfbkfaaGreatDoor.nodesLife.kl g.kl y.1))) &&
  ((g.C'.map (·.1)).all (fun b => (g.C'.map (·.1)).all fun c => !Nat.beq (Go.Proofs.YtofbdgmknfbkfaaGreatDoor.nodesLife.kl g.kl b) (Go.Proofs.YtofbdgmknfbkfaaGreatDoor.nodesLife.kl g.kl c) || Nat.beq b c) && (g.kl.all (fun x => Nat.ble 9 x.1) && (namess (fun c => Nat.blt c 24) g.args && g.w.names (pN 24 g.new))))))))
/-- What is asked of the calls: each in any state that is as it is known. -/
def QOk : List QI → Prop
  | [] => True
  | .fix q :: l => q.ok Tryz.prog ∧ QOk l
  | .call f a v t see :: l => (∀ s : AS, (∀ y ∈ see, s.get y.1 = some y.2) → Sound Tryz.prog (.call f a s) ⟨.ret, [v], t s⟩) ∧ QOk l
  | .ld t a v see :: l => (∀ s : AS, (∀ y ∈ see, s.get y.1 = some y.2) → loadA Tryz.prog s t a = some v) ∧ QOk l
  | .lk t m k ok v see :: l => (∀ s : AS, (∀ y ∈ see, s.get y.1 = some y.2) → lookupA Tryz.prog s t m k ok = some v) ∧ QOk l
  | .upd t m k a tf see :: l => (∀ s : AS, (∀ y ∈ see, s.get y.1 = some y.2) → updateA Tryz.prog s t m k a = some (tf s)) ∧ QOk l
  | .app t t2 a b v tf n see :: l => (∀ s : AS, s.nx = n → (∀ y ∈ see, s.get y.1 = some y.2) → appendA Tryz.prog s t t2 a b = some (v, tf s)) ∧ QOk l
theorem qsts_of : ∀ {l : List QI} {x : List Qst}, x = mkQ l x → seeL l x = seeR l → QOk l → Qsts Tryz.prog x
  | [], x, h, _, _ => by
    rw [h]
    trivial
  | .fix q :: l, x, h, hs, hq => by
    cases x with
    | nil => trivial
    | cons y x =>
      simp only [mkQ, List.drop_succ_cons, List.drop_zero, List.cons.injEq] at h
      simp only [seeL, seeR, List.drop_succ_cons, List.drop_zero] at hs
      rw [h.1]
      exact ⟨hq.1, qsts_of h.2 hs hq.2⟩
  | .call f a v t see :: l, x, h, hs, hq => by
    cases x with
    | nil => trivial
    | cons y x =>
      simp only [mkQ, List.drop_succ_cons, List.drop_zero, List.headD_cons, List.cons.injEq] at h
      simp only [seeL, seeR, List.drop_succ_cons, List.drop_zero, List.headD_cons] at hs
      have hl := List.append_inj hs (by rw [List.length_map, List.length_map])
      rw [h.1]
      exact ⟨hq.1 _ fun y hy => List.map_inj_left.1 hl.1 y hy, qsts_of h.2 hl.2 hq.2⟩
  | .ld t a v see :: l, x, h, hs, hq => by
    cases x with
    | nil => trivial
    | cons y x =>
      simp only [mkQ, List.drop_succ_cons, List.drop_zero, List.headD_cons, List.cons.injEq] at h
      simp only [seeL, seeR, List.drop_succ_cons, List.drop_zero, List.headD_cons] at hs
      have hl := List.append_inj hs (by rw [List.length_map, List.length_map])
      rw [h.1]
      exact ⟨hq.1 _ fun y hy => List.map_inj_left.1 hl.1 y hy, qsts_of h.2 hl.2 hq.2⟩
  | .lk t m k ok v see :: l, x, h, hs, hq => by
    cases x with
    | nil => trivial
    | cons y x =>
      simp only [mkQ, List.drop_succ_cons, List.drop_zero, List.headD_cons, List.cons.injEq] at h
      simp only [seeL, seeR, List.drop_succ_cons, List.drop_zero, List.headD_cons] at hs
      have hl := List.append_inj hs (by rw [List.length_map, List.length_map])
      rw [h.1]
      exact ⟨hq.1 _ fun y hy => List.map_inj_left.1 hl.1 y hy, qsts_of h.2 hl.2 hq.2⟩
  | .upd t m k a tf see :: l, x, h, hs, hq => by
    cases x with
    | nil => trivial
    | cons y x =>
      simp only [mkQ, List.drop_succ_cons, List.drop_zero, List.headD_cons, List.cons.injEq] at h
      simp only [seeL, seeR, List.drop_succ_cons, List.drop_zero, List.headD_cons] at hs
      have hl := List.append_inj hs (by rw [List.length_map, List.length_map])
      rw [h.1]
      exact ⟨⟨hq.1 _ fun y hy => List.map_inj_left.1 hl.1 y hy, rfl⟩, qsts_of h.2 hl.2 hq.2⟩
  | .app t t2 a b v tf n see :: l, x, h, hs, hq => by
    cases x with
    | nil => trivial
    | cons y x =>
      simp only [mkQ, List.drop_succ_cons, List.drop_zero, List.headD_cons, List.cons.injEq] at h
      simp only [seeL, seeR, List.drop_succ_cons, List.drop_zero, List.headD_cons] at hs
      have hl := List.append_inj hs (by simp only [List.length_cons, List.length_map])
      simp only [List.cons.injEq, nxO, Option.some.injEq, AObj.cells.injEq, AV.int.injEq, true_and, and_true, Int.ofNat.injEq] at hl
      rw [h.1]
      exact ⟨hq.1 _ hl.1.1 fun y hy => List.map_inj_left.1 hl.1.2 y hy, qsts_of h.2 hl.2 hq.2⟩
theorem inB_iff {l : List Nat} {b : Nat} : inB l b = true ↔ b ∈ l := by
  unfold inB
  rw [List.any_eq_true]
  exact ⟨fun ⟨y, hy, e⟩ => Nat.eq_of_beq_eq_true e ▸ hy, fun h => ⟨b, h, Nat.beq_refl b⟩⟩
theorem nodB_ok : ∀ {l : List Nat}, nodB l = true → l.Nodup
  | [], _ => List.nodup_nil
  | x :: l, h => by
    simp only [nodB, Bool.and_eq_true, Bool.not_eq_true'] at h
    refine List.nodup_cons.2 ⟨fun hm => ?_, nodB_ok h.2⟩
    have : (l.any fun y => Nat.beq x y) = true := List.any_eq_true.2 ⟨x, hm, Nat.beq_refl x⟩
    rw [h.1] at this
    cases this
theorem kl_low : ∀ {l : List (Nat × Nat)} {b : Nat}, l.all (fun x => Nat.ble 9 x.1) = true → b < 9 → kl l b = b
  | [], _, _, _ => rfl
  | (x, y) :: t, b, h, hb => by
    simp only [List.all_cons, Bool.and_eq_true] at h
    show (bif Nat.beq x b then y else kl t b) = b
    have h1 := Nat.le_of_ble_eq_true h.1
    rw [show Nat.beq x b = false from by cases e : Nat.beq x b <;> first | rfl | (have := Nat.eq_of_beq_eq_true e; omega)]
    exact kl_low h.2 hb
theorem getB_of : ∀ {bs : List (Nat × AObj)}, (bs.map (·.1)).Nodup → ∀ x ∈ bs, getB bs x.1 = some x.2
  | y :: t, hn, x, hx => by
    simp only [List.map_cons, List.nodup_cons] at hn
    show (if Nat.beq y.1 x.1 then some y.2 else getB t x.1) = _
    rcases List.mem_cons.1 hx with rfl | hx
    · rw [if_pos (Nat.beq_refl _)]
    · rw [if_neg fun e => hn.1 (List.mem_map.2 ⟨x, hx, (Nat.eq_of_beq_eq_true e).symm⟩)]
      exact getB_of hn.2 x hx
def memP (M : PM) : List (Nat × AObj) := [(7, .cells false (M.C (.map 8))), (8, mapO M.ms)]
theorem gz : ∀ x ∈ GF, x.1 < 2 ∧ namess (fun _ => false) x.2 = true := fun x hx => by
  simp only [GF, G2, List.mem_cons, List.not_mem_nil, or_false] at hx
  rcases hx with rfl | rfl <;> exact ⟨by decide, rfl⟩
theorem g_step {g : GD} {M M2 : PM} {v : AV} (h : g.L (.cells false (M.C (.map 8))) (mapO M.ms) = g.R (.cells false (M.C (.map 8))) (mapO M.ms) (.cells false (M2.C (.map 8))) (mapO M2.ms))
    (hq : QOk g.qs) (hs : g.stat = true) (hw : g.w = v.ren (kl g.kl)) :
    StepF Tryz.prog GF 24 g.f g.args v (memP M ++ g.C) (memP M2 ++ g.C') (kl g.kl) := by
  simp only [GD.stat, Bool.and_eq_true] at hs
  obtain ⟨a1, a2, a3, a4, a5, a6, a7, a8, a9⟩ := hs
  unfold GD.L GD.R at h
  cases hr : g.run (.cells false (M.C (.map 8))) (mapO M.ms) with
  | none => rw [hr] at h; cases h
  | some x =>
    rw [hr] at h
    obtain ⟨⟨e, ts, s1⟩, ds', q'⟩ := x
    simp only [Option.some.injEq, GD.lk, GD.want, Prod.mk.injEq, Bool.and_eq_true] at h
    obtain ⟨h1, ⟨h7, h8⟩, h2, ⟨h3, h4⟩, h5, h6⟩ := h
    have hQ : Qsts Tryz.prog q' := qsts_of h5 h6 hq
    subst h1
    have hrun := runX_sound mixed none_sound hr hQ
    have b1 : ∀ y ∈ g.C, 9 ≤ y.1 ∧ y.1 < 24 ∧ y.2.rw = true ∧ y.2.names (fun c => Nat.blt c 24) = true := fun y hy => by
      have := List.all_eq_true.1 a1 y hy
      simp only [Bool.and_eq_true] at this
      exact ⟨Nat.le_of_ble_eq_true this.1, Nat.blt_eq ▸ this.2.1, this.2.2.1, this.2.2.2⟩
    have b4 : ∀ b ∈ g.new, 24 ≤ b := fun b hb => Nat.le_of_ble_eq_true (List.all_eq_true.1 a4 b hb)
    have b5 : ∀ y ∈ g.C', 9 ≤ y.1 ∧ (kl g.kl y.1 ∈ g.C.map (·.1) ∨ kl g.kl y.1 ∈ g.new) := fun y hy => by
      have := List.all_eq_true.1 a5 y hy
      simp only [Bool.and_eq_true, Bool.or_eq_true] at this
      exact ⟨Nat.le_of_ble_eq_true this.1, this.2.imp inB_iff.1 inB_iff.1⟩
    have lows : ∀ b, b < 9 → kl g.kl b = b := fun b hb => kl_low a7 hb
    have nd : ((memP M ++ g.C).map (·.1)).Nodup := by
      show (7 :: 8 :: g.C.map (·.1)).Nodup
      refine List.nodup_cons.2 ⟨fun hm => ?_, List.nodup_cons.2 ⟨fun hm => ?_, nodB_ok a2⟩⟩
      · rcases List.mem_cons.1 hm with e | hm
        · cases e
        · obtain ⟨y, hy, e⟩ := List.mem_map.1 hm
          have := b1 y hy
          omega
      · obtain ⟨y, hy, e⟩ := List.mem_map.1 hm
        have := b1 y hy
        omega
    have o7 : objAt s1 7 = .cells false (M2.C (.map 8)) := by simp [objAt, h7]
    have o8 : objAt s1 8 = mapO M2.ms := by simp [objAt, h8]
    refine step_mk (n0 := g.C.length + 4) hrun g.new ⟨by rw [glN]; decide, eachX_all fun x hx => ?_, nd, fun x hx => ?_⟩ (nodB_ok a3) (fun b hb => ?_) (fun c hc => lows c (by rw [glN] at hc; omega)) (fun x hx => lows x.1 (by have := (gz x hx).1; omega)) (eachX_all fun x hx => ?_) (fun b hb c hc e => ?_) a8 (eachX_all fun x hx => ?_) a9 hw
    · have hg := getB_of nd x hx
      rcases List.mem_append.1 hx with h | h
      · simp only [memP, List.mem_cons, List.not_mem_nil, or_false] at h
        rcases h with rfl | rfl
        · exact ⟨show 7 < 24 by decide, rfl, rfl, hg⟩
        · exact ⟨show 8 < 24 by decide, rfl, mapO_names _ _, hg⟩
      · obtain ⟨_, c2, c3, c4⟩ := b1 x h
        exact ⟨c2, c3, c4, hg⟩
    · refine ⟨by have := (gz x hx).1; omega, fun hm => ?_, (gz x hx).2⟩
      obtain ⟨y, hy, e⟩ := List.mem_map.1 hm
      have h3 := (gz x hx).1
      rcases List.mem_append.1 hy with h | h
      · simp only [memP, List.mem_cons, List.not_mem_nil, or_false] at h
        rcases h with rfl | rfl
        · have e : 7 = x.1 := e
          omega
        · have e : 8 = x.1 := e
          omega
      · have := b1 y h
        omega
    · have := List.all_eq_true.1 h4 b hb
      simp only [newB2, Bool.and_eq_true] at this
      exact ⟨b4 b hb, this.1, this.2⟩
    · rcases List.mem_append.1 hx with h | h
      · simp only [memP, List.mem_cons, List.not_mem_nil, or_false] at h
        rcases h with rfl | rfl
        · rw [lows 7 (by decide)]
          exact ⟨.inl (by simp [memP]), by rw [h7]; show _ = some (AObj.cells false (M2.C (.map (kl g.kl 8)))); rw [lows 8 (by decide)]⟩
        · rw [lows 8 (by decide), mapO_ren]
          exact ⟨.inl (by simp [memP]), h8⟩
      · refine ⟨(b5 x h).2.imp (fun h => ?_) id, ?_⟩
        · rw [List.map_append]
          exact List.mem_append.2 (.inr h)
        · exact List.map_inj_left.1 h2 x h
    · have k9 : ∀ y ∈ g.C', 9 ≤ kl g.kl y.1 := fun y hy => by
        rcases (b5 y hy).2 with h | h
        · obtain ⟨z, hz, e⟩ := List.mem_map.1 h
          have := (b1 z hz).1
          omega
        · have := b4 _ h
          omega
      obtain ⟨y, hy, rfl⟩ := List.mem_map.1 hb
      obtain ⟨z, hz, rfl⟩ := List.mem_map.1 hc
      have lo : ∀ y ∈ memP M2, y.1 < 9 := fun y hy => by
        simp only [memP, List.mem_cons, List.not_mem_nil, or_false] at hy
        rcases hy with rfl | rfl
        · show 7 < 9; decide
        · show 8 < 9; decide
      rcases List.mem_append.1 hy with hy | hy <;> rcases List.mem_append.1 hz with hz | hz
      · rw [lows _ (lo y hy), lows _ (lo z hz)] at e
        exact e
      · rw [lows _ (lo y hy)] at e
        have := lo y hy
        have := k9 z hz
        omega
      · rw [lows _ (lo z hz)] at e
        have := lo z hz
        have := k9 y hy
        omega
      · have := List.all_eq_true.1 (List.all_eq_true.1 a6 y.1 (List.mem_map.2 ⟨y, hy, rfl⟩)) z.1 (List.mem_map.2 ⟨z, hz, rfl⟩)
        simp only [Bool.or_eq_true, Bool.not_eq_true'] at this
        rcases this with h | h
        · rw [e, Nat.beq_refl] at h
          cases h
        · exact Nat.eq_of_beq_eq_true h
    · rcases List.mem_append.1 hx with h | h
      · simp only [memP, List.mem_cons, List.not_mem_nil, or_false] at h
        rcases h with rfl | rfl
        · show ((objAt s1 7).rw = true ∨ _) ∧ _
          rw [o7]
          exact ⟨.inl rfl, rfl⟩
        · show ((objAt s1 8).rw = true ∨ _) ∧ _
          rw [o8]
          exact ⟨.inl rfl, mapO_names _ _⟩
      · have := List.all_eq_true.1 h3 x h
        simp only [oldB, Bool.and_eq_true, Bool.or_eq_true] at this
        refine ⟨this.1.imp id fun h => ?_, this.2⟩
        split at h
        · assumption
        · cases h
end Go.Proofs.YtofbdgmknfbkfaaGreatDoor.nodesLife
namespace Go.Mini
open Go Go.RowKit
/-- What a call leaves alone may lie beside. -/
theorem StepF.frame {P : Program} {bs bs' : List (Nat × AObj)} {Fz : List (Nat × List AV)} {κ : Nat → Nat} {nx0 : Nat} {f : FuncId} {args : List AV} {v : AV} (h : StepF P Fz nx0 f args v bs bs' κ) (ext : List (Nat × AObj)) (hz : ∀ x ∈ Fz, x.1 < nx0 ∧ κ x.1 = x.1)
    (he : eachX (fun b o => b < nx0 ∧ κ b = b ∧ o.names (fun c => Nat.blt c nx0 && Nat.beq (κ c) c) = true ∧ b ∉ bs.map (·.1)) ext) : StepF P Fz nx0 f args v (bs ++ ext) (bs' ++ ext) κ := by
  intro s π A
  have A1 : At P bs Fz s π := A.sub fun x hx => by simp [hx]
  obtain ⟨s', π', hS, A', M⟩ := h s π A1
  have hlow : ∀ b ∈ ext.map (·.1), π' b = π b := fun b hb => by
    obtain ⟨x, hx, rfl⟩ := List.mem_map.1 hb
    exact M.low _ (eachX_mem he x hx).1 (eachX_mem he x hx).2.1
  have hk : ∀ b, b ∈ (bs ++ ext).map (·.1) ↔ b ∈ bs.map (·.1) ∨ b ∈ ext.map (·.1) := fun b => by rw [List.map_append, List.mem_append]
  have hk' : ∀ b, b ∈ (bs' ++ ext).map (·.1) ↔ b ∈ bs'.map (·.1) ∨ b ∈ ext.map (·.1) := fun b => by rw [List.map_append, List.mem_append]
  have hno : ∀ b ∈ ext.map (·.1), b ∉ bs.map (·.1) := fun b hb => by
    obtain ⟨x, hx, rfl⟩ := List.mem_map.1 hb
    exact (eachX_mem he x hx).2.2.2
  have hlt : ∀ b ∈ ext.map (·.1), π b < s.nx := fun b hb => A.lt ((hk b).2 (.inr hb))
  have hne : ∀ b ∈ ext.map (·.1), ∀ d ∈ bs.map (·.1), π d ≠ π b := fun b hb d hd e => hno b hb (A.inj d ((hk d).2 (.inl hd)) b ((hk b).2 (.inr hb)) e ▸ hd)
  have hmix : ∀ b ∈ bs'.map (·.1), ∀ c ∈ ext.map (·.1), π' b ≠ π' c := fun b hb c hc e => by
    rw [hlow c hc] at e
    rcases M.old b hb with ⟨d, hd, h1⟩ | h1
    · exact hne c hc d hd (h1 ▸ e)
    · have := hlt c hc
      omega
  refine ⟨s', π', hS, ⟨A'.glob, A'.fz, fun b hb x hx => ?_, fun b hb c hc e => ?_, eachX_all fun x hx => ?_, A'.keys⟩, ⟨fun b hb => ?_, M.low, fun c hc hd => M.rest c hc fun d hd' => hd d ((hk d).2 (.inl hd')), M.nx⟩⟩
  · rcases (hk' b).1 hb with hb | hb
    · exact A'.out b hb x hx
    · rw [hlow b hb, M.low x.1 (hz x hx).1 (hz x hx).2]
      exact A.out b ((hk b).2 (.inr hb)) x hx
  · rcases (hk' b).1 hb with hb | hb <;> rcases (hk' c).1 hc with hc | hc
    · exact A'.inj b hb c hc e
    · exact absurd e (hmix b hb c hc)
    · exact absurd e.symm (hmix c hc b hb)
    · rw [hlow b hb, hlow c hc] at e
      exact A.inj b ((hk b).2 (.inr hb)) c ((hk c).2 (.inr hc)) e
  · rcases List.mem_append.1 hx with hx | hx
    · exact eachX_mem A'.at_ x hx
    · have hb : x.1 ∈ ext.map (·.1) := List.mem_map.2 ⟨x, hx, rfl⟩
      rw [hlow _ hb, M.rest _ (hlt _ hb) (hne _ hb), eachX_mem A.at_ x (by simp [hx])]
      congr 1
      refine oren_congr (fun c hc => ?_) (eachX_mem he x hx).2.2.1
      rw [Bool.and_eq_true] at hc
      exact (M.low c (Nat.blt_eq ▸ hc.1) (Nat.eq_of_beq_eq_true hc.2)).symm
  · rcases (hk' b).1 hb with hb | hb
    · rcases M.old b hb with ⟨d, hd, h1⟩ | h1
      · exact .inl ⟨d, (hk d).2 (.inl hd), h1⟩
      · exact .inr h1
    · exact .inl ⟨b, (hk b).2 (.inr hb), hlow b hb⟩
end Go.Mini
namespace Go.Mini
open Go Go.RowKit
section
variable {P : Program}
theorem keepC2 {f : FuncId} {fn : Func} {c : Code} {args ts vs : List AV} {s s' : AS} {e : AExit} (hf : P.funcs[f]? = some fn) (hb : fn.body = some c)
    (hx : Sound P (.code c (args ++ List.replicate (fn.ntmps - args.length) undefA) ⟨⟨s.h.bs, s.h.len, none, []⟩, s.nx⟩) ⟨e, ts, s'⟩) (he : e = .normal ∨ e = .ret) (hvs : resultsA P ts s' fn.results.toList = some vs) :
    Sound P (.call f args s) ⟨.ret, [oneOrTuple vs], ⟨⟨s'.h.bs, s'.h.len, none, olds s.nx s'.h.wr s.h.wr⟩, s'.nx⟩⟩ := by
  intro B ρ cargs w R hargs
  have R0 : Rel P B ρ ⟨⟨s.h.bs, s.h.len, none, []⟩, s.nx⟩ w := R.congr (fun _ => rfl) rfl rfl
  have ht0 : TR ρ (args ++ List.replicate (fn.ntmps - args.length) undefA) { tmps := cargs.toArray ++ Array.replicate (fn.ntmps - cargs.toArray.size) undef, defers := [] } := by
    refine ⟨?_, rfl⟩
    have hl := hargs.length
    simp only [Array.toList_append, Array.toList_replicate, List.size_toArray]
    rw [← hl]
    exact hargs.append (VRels.replicate _ vrel_undef)
  refine calls_of_wp hf hb (wp_mono (hx.2 B ρ _ w R0 ht0) ?_)
  rintro e' a1 w1 ⟨rfl, ρ1, ht1, hp1⟩
  obtain ⟨u, hu, hr⟩ := results_all hp1.rel ht1 hvs
  have hpost : Post P B ρ s w ρ1 ⟨⟨s'.h.bs, s'.h.len, none, olds s.nx s'.h.wr s.h.wr⟩, s'.nx⟩ w1 := by
    obtain ⟨hnx, ⟨ks, h2, h3, h4⟩, lg, h5, h6⟩ := hp1.shape
    have hlog : olds s.nx s'.h.wr s.h.wr = (lg.filter fun b => Nat.blt b s.nx) ++ s.h.wr := by
      rw [olds_eq]
      congr 2
      simpa using h5
    have hin : ∀ b, b < s.nx → b ∉ (lg.filter fun b => Nat.blt b s.nx) → b ∉ lg := fun b hb hn hm => hn (List.mem_filter.2 ⟨hm, by simpa using hb⟩)
    exact ⟨hp1.rel.congr (fun _ => rfl) rfl rfl, hp1.ext, hp1.unt, ⟨hnx, ⟨ks, h2, h3, h4⟩, _, hlog, fun b hb hn => h6 b hb (hin b hb hn)⟩, hp1.size⟩
  rcases he with rfl | rfl
  · exact ⟨ht1.df, u, hu, _, u, ρ1, rfl, rfl, hr, hpost⟩
  · exact ⟨ht1.df, u, hu, _, u, ρ1, rfl, rfl, hr, hpost⟩
theorem splice_one : ∀ {o : Nat} {cs : List AV} {v : AV}, o < cs.length → splice o [v] cs = some (cs.set o v)
  | 0, x :: cs, v, _ => by cases cs <;> rfl
  | n + 1, x :: cs, v, h => by
    have := splice_one (o := n) (cs := cs) (v := v) (by simpa using h)
    simp only [splice, this]
    rfl
theorem splice_all : ∀ {vs cs : List AV}, vs.length = cs.length → splice 0 vs cs = some vs
  | [], [], _ => rfl
  | v :: vs, c :: cs, h => by
    have := splice_all (vs := vs) (cs := cs) (by simpa using h)
    simp only [splice, this]
theorem note_bs (s : AS) (b : Nat) (y : Bool) : (noteEsc s b y).h.bs = s.h.bs ∧ (noteEsc s b y).nx = s.nx := by
  unfold noteEsc
  split <;> exact ⟨rfl, rfl⟩
/-- A store, of one cell. -/
theorem st_one {s : AS} {t : TypeId} {b o : Nat} {cs : List AV} {v : AV} (ht : sizeA P t = some 1) (hv : v.cells = [v]) (ho : AV.one v = true) (hs : s.get b = some (.cells false cs)) (h : o < cs.length) : ∃ s2, storeA P s t (.ptr b o) v = some s2 ∧ s2.h.bs = setB s.h.bs b (.cells false (cs.set o v)) ∧ s2.nx = s.nx := by
  simp only [storeA, ht, hv, List.length_cons, List.length_nil, Nat.beq_refl, if_true, Nat.zero_add, writeA, hs, List.all_cons, List.all_nil, ho, Bool.and_true, splice_one h]
  exact ⟨_, rfl, note_bs _ _ _⟩
/-- A store of a whole block. -/
theorem st_all {s : AS} {t : TypeId} {b : Nat} {cs vs : List AV} (ht : sizeA P t = some cs.length) (hl : vs.length = cs.length) (ho : vs.all AV.one = true) (hs : s.get b = some (.cells false cs)) : ∃ s2, storeA P s t (.ptr b 0) (.agg vs) = some s2 ∧ s2.h.bs = setB s.h.bs b (.cells false vs) ∧ s2.nx = s.nx := by
  have hv : (AV.agg vs).cells = vs := rfl
  simp only [storeA, ht, hv, hl, Nat.beq_refl, if_true, writeA, hs, ho, splice_all hl]
  exact ⟨_, rfl, note_bs _ _ _⟩
theorem set_keys : ∀ (l : List (Nat × AObj)) (b : Nat) (o : AObj), (setB l b o).map (·.1) = l.map (·.1)
  | [], _, _ => rfl
  | x :: t, b, o => by
    simp only [setB]
    split
    · rfl
    · simp only [List.map_cons, set_keys t b o]
section
variable {Fz : List (Nat × List AV)} {N : Nat} {S : List (Nat × AObj)} {w : Nat → Nat} {C : Nat → List (Nat × AObj)} {ψ : Nat → Nat → Nat} {Ks X : List Nat} {s s2 : AS}
/-- What is turned elsewhere. -/
theorem Par.outside (h : Par P Fz N S w C ψ Ks s) (hz : ∀ x ∈ Fz, x.1 < P.globals.size) (hX : ∀ c, c < s.nx → c ∉ X → s2.get c = s.get c) (hXk : ∀ c ∈ X, c ∈ Ks ∧ P.globals.size ≤ c) (hnx : s.nx ≤ s2.nx) (hk : ∀ k ∈ s2.h.bs.map (·.1), k < s2.nx) : Par P Fz N S w C ψ Ks s2 := by
  refine ⟨fun j hj => ?_, h.sh, h.dis, fun c hc => ⟨Nat.lt_of_lt_of_le (h.ks c hc).1 hnx, (h.ks c hc).2⟩⟩
  have A := h.at_ j hj
  refine ⟨A.glob, fun x hx => ?_, A.out, A.inj, eachX_all fun x hx => ?_, hk⟩
  · obtain ⟨ro, hr⟩ := A.fz x hx
    refine ⟨ro, ?_⟩
    have e := A.glob _ (hz x hx)
    rw [hX _ (A.keys _ (getB_mem hr)) fun hm => ?_]
    · exact hr
    · rw [e] at hm
      have := (hXk _ hm).2
      have := hz x hx
      omega
  · rw [hX _ (A.lt2 hx) fun hm => (h.ks _ (hXk _ hm).1).2 j hj x hx rfl]
    exact eachX_mem A.at_ x hx
theorem Par.same (h : Par P Fz N S w C ψ Ks s) (hz : ∀ x ∈ Fz, x.1 < P.globals.size) (hb : s2.h.bs = s.h.bs) (hn : s2.nx = s.nx) (hk : ∀ k ∈ s.h.bs.map (·.1), k < s.nx) : Par P Fz N S w C ψ Ks s2 :=
  h.outside (X := []) hz (fun c _ _ => by show getB _ _ = getB _ _; rw [hb]) (fun c hc => by cases hc) (by omega) (by rw [hb, hn]; exact hk)
theorem Par.addK (h : Par P Fz N S w C ψ Ks s) {c n : Nat} (hn : ∀ j, j < N → ∀ x ∈ S ++ C j, ψ j x.1 < n) (hc : n ≤ c) (hc2 : c < s.nx) : Par P Fz N S w C ψ (c :: Ks) s :=
  ⟨h.at_, h.sh, h.dis, fun d hd => by
    rcases List.mem_cons.1 hd with rfl | hd
    · exact ⟨hc2, fun j hj x hx => by have := hn j hj x hx; omega⟩
    · exact h.ks d hd⟩
end
end
end Go.Mini
namespace Go.Proofs.YtofbdgmknfbkfaaGreatDoor.nodesLife
open Go Go.Mini
theorem run0 {n f : Nat} {t : Go.Mini.Task} {ds : List Dec} {v : AV} {q : List Qst} (h : (runX Tryz.prog none_ n f t ds).map (fun x => (x.1.ts, x.2.2)) = some ([v], q)) (hq : Qsts Tryz.prog q) : ∃ e s1, Sound Tryz.prog t ⟨e, [v], s1⟩ := by
  cases hr : runX Tryz.prog none_ n f t ds with
  | none => rw [hr] at h; cases h
  | some x =>
    rw [hr] at h
    obtain ⟨⟨e, ts, s1⟩, ds', q'⟩ := x
    simp only [Option.map_some, Option.some.injEq, Prod.mk.injEq] at h
    obtain ⟨rfl, rfl⟩ := h
    exact ⟨e, s1, runX_sound mixed none_sound hr hq⟩
theorem pure0 {n f : Nat} {g : FuncId} {args : List AV} {G : List (Nat × List AV)} {ds : List Dec} {v : AV} {q : List Qst} (h : (runX Tryz.prog none_ n f (.call g args (startS Tryz.prog G)) ds).map (fun x => (x.1.ts, x.2.2)) = some ([v], q)) (hq : Qsts Tryz.prog q) (hl : lowG Tryz.prog G = true) (ha : lowNames Tryz.prog args = true) (hv : lowNames Tryz.prog [v] = true) : (Qst.pure G g args v).ok Tryz.prog := fun s hs => by
  obtain ⟨e, s1, h1⟩ := run0 h hq
  exact Sound.pure h1 hl ha hv hs
end Go.Proofs.YtofbdgmknfbkfaaGreatDoor.nodesLife
