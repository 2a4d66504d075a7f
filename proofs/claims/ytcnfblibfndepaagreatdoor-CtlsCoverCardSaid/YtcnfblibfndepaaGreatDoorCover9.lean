/- A step of the Switch, and small calls, wherever they lie. Conditions: those that each theorem names, and no others. -/
import Derived.Test.YtcnfblibfndepaaGreatDoorCover8
namespace Go.Mini
open Go Go.RowKit
/-- What a call leaves alone may lie beside. -/
theorem StepF.frame {P : Program} {bs bs' : List (Nat × AObj)} {Fz : List (Nat × List AV)} {κ : Nat → Nat} {nx0 : Nat} {f : FuncId} {args : List AV} {v : AV} (h : StepF P Fz nx0 f args v bs bs' κ) (ext : List (Nat × AObj)) (hz : ∀ x ∈ Fz, x.1 < nx0 ∧ κ x.1 = x.1)
    (he : eachX (fun b o => b < nx0 ∧ κ b = b ∧ o.names (fun c => Nat.blt c nx0 && Nat.beq (κ c) c) = true ∧ b ∉ bs.map (·.1)) ext) : StepF P Fz nx0 f args v (bs ++ ext) (bs' ++ ext) κ := by
  intro s π A
  have A1 : At P bs Fz s π := A.sub fun x hx => by simp [hx]
  obtain ⟨s', π', hS, A', M⟩ := h s π A1
  have hlow : ∀ b ∈ ext.map (·.1), π' b = π b := fun b hb => by
    obtain ⟨x, hx, rfl⟩ := List.mem_map.1 hb
    exact M.low _ (eachX_mem he x hx).1 (eachX_mem he x hx).2.1
  have hk : ∀ b, b ∈ (bs ++ ext).map (·.1) ↔ b ∈ bs.map (·.1) ∨ b ∈ ext.map (·.1) := fun b => by rw [List.map_append, List.mem_append]
  have hk' : ∀ b, b ∈ (bs' ++ ext).map (·.1) ↔ b ∈ bs'.map (·.1) ∨ b ∈ ext.map (·.1) := fun b => by rw [List.map_append, List.mem_append]
  have hno : ∀ b ∈ ext.map (·.1), b ∉ bs.map (·.1) := fun b hb => by
    obtain ⟨x, hx, rfl⟩ := List.mem_map.1 hb
    exact (eachX_mem he x hx).2.2.2
  have hlt : ∀ b ∈ ext.map (·.1), π b < s.nx := fun b hb => A.lt ((hk b).2 (.inr hb))
  have hne : ∀ b ∈ ext.map (·.1), ∀ d ∈ bs.map (·.1), π d ≠ π b := fun b hb d hd e => hno b hb (A.inj d ((hk d).2 (.inl hd)) b ((hk b).2 (.inr hb)) e ▸ hd)
  have hmix : ∀ b ∈ bs'.map (·.1), ∀ c ∈ ext.map (·.1), π' b ≠ π' c := fun b hb c hc e => by
    rw [hlow c hc] at e
    rcases M.old b hb with ⟨d, hd, h1⟩ | h1
    · exact hne c hc d hd (h1 ▸ e)
    · have := hlt c hc
      omega
  refine ⟨s', π', hS, ⟨A'.glob, A'.fz, fun b hb x hx => ?_, fun b hb c hc e => ?_, eachX_all fun x hx => ?_, A'.keys⟩, ⟨fun b hb => ?_, M.low, fun c hc hd => M.rest c hc fun d hd' => hd d ((hk d).2 (.inl hd')), M.nx⟩⟩
  · rcases (hk' b).1 hb with hb | hb
    · exact A'.out b hb x hx
    · rw [hlow b hb, M.low x.1 (hz x hx).1 (hz x hx).2]
      exact A.out b ((hk b).2 (.inr hb)) x hx
  · rcases (hk' b).1 hb with hb | hb <;> rcases (hk' c).1 hc with hc | hc
    · exact A'.inj b hb c hc e
    · exact absurd e (hmix b hb c hc)
    · exact absurd e.symm (hmix c hc b hb)
    · rw [hlow b hb, hlow c hc] at e
      exact A.inj b ((hk b).2 (.inr hb)) c ((hk c).2 (.inr hc)) e
  · rcases List.mem_append.1 hx with hx | hx
    · exact eachX_mem A'.at_ x hx
    · have hb : x.1 ∈ ext.map (·.1) := List.mem_map.2 ⟨x, hx, rfl⟩
      rw [hlow _ hb, M.rest _ (hlt _ hb) (hne _ hb), eachX_mem A.at_ x (by simp [hx])]
      congr 1
      refine oren_congr (fun c hc => ?_) (eachX_mem he x hx).2.2.1
      rw [Bool.and_eq_true] at hc
      exact (M.low c (Nat.blt_eq ▸ hc.1) (Nat.eq_of_beq_eq_true hc.2)).symm
  · rcases (hk' b).1 hb with hb | hb
    · rcases M.old b hb with ⟨d, hd, h1⟩ | h1
      · exact .inl ⟨d, (hk d).2 (.inl hd), h1⟩
      · exact .inr h1
    · exact .inl ⟨b, (hk b).2 (.inr hb), hlow b hb⟩
/-- A block that nobody made may be thought of behind a call. -/
theorem StepF.ghost {P : Program} {bs bs' : List (Nat × AObj)} {Fz : List (Nat × List AV)} {κ : Nat → Nat} {nx0 : Nat} {f : FuncId} {args : List AV} {v : AV} (h : StepF P Fz nx0 f args v bs bs' κ) (n : Nat) (o : AObj) (ho : o.names (fun _ => false) = true) (hn : n ∉ bs'.map (·.1)) (hg : P.globals.size ≤ n) (hz : ∀ x ∈ Fz, x.1 ≠ n) (hnm : ∀ x ∈ bs', x.2.names (fun c => !Nat.beq c n) = true) (hv : v.names (fun c => !Nat.beq c n) = true) :
    StepF P Fz nx0 f args v bs (bs' ++ [(n, o)]) (fun b => if b = n then n + 1 else κ b) := by
  intro s π A
  obtain ⟨s', π', hS, A', M⟩ := h s π A
  have ne : ∀ {c : Nat}, (!Nat.beq c n) = true → c ≠ n := fun hc e => by rw [e, Nat.beq_refl] at hc; cases hc
  obtain ⟨ψ, e1, e2⟩ : ∃ ψ : Nat → Nat, (∀ c, c ≠ n → ψ c = π' c) ∧ ψ n = s'.nx := ⟨fun b => if b = n then s'.nx else π' b, fun c hc => if_neg hc, if_pos rfl⟩
  have inb : ∀ x ∈ bs', x.1 ≠ n := fun x hx e => hn (e ▸ List.mem_map.2 ⟨x, hx, rfl⟩)
  have lt : ∀ x ∈ bs', π' x.1 < s'.nx := fun x hx => A'.lt2 hx
  have get : ∀ c, c < s'.nx → (s'.push o).get c = s'.get c := fun c hc => by rw [get_push, if_neg (by omega)]
  have fzlt : ∀ x ∈ Fz, π' x.1 < s'.nx := fun x hx => by
    obtain ⟨ro, hr⟩ := A'.fz x hx
    exact A'.keys _ (getB_mem hr)
  refine ⟨s'.push o, ψ, ?_, ⟨fun g hg' => ?_, fun x hx => ?_, fun b hb x hx => ?_, fun b hb c hc e => ?_, eachX_all fun x hx => ?_, fun k hk => ?_⟩, ⟨fun b hb => ?_, fun b hb hk => ?_, fun c hc hd => ?_, ?_⟩⟩
  · rw [ren_congr (p := fun c => !Nat.beq c n) (π' := π') (fun b hb => e1 b (ne hb)) hv]
    exact Sound.ghost o hS
  · exact (e1 g (by omega)).trans (A'.glob g hg')
  · obtain ⟨ro, hr⟩ := A'.fz x hx
    refine ⟨ro, ?_⟩
    rw [e1 _ (hz x hx), get _ (fzlt x hx)]
    exact hr
  · rw [e1 _ (hz x hx)]
    obtain ⟨y, hy, rfl⟩ := List.mem_map.1 hb
    rcases List.mem_append.1 hy with hy | hy
    · rw [e1 _ (inb y hy)]
      exact A'.out _ (List.mem_map.2 ⟨y, hy, rfl⟩) x hx
    · simp only [List.mem_cons, List.not_mem_nil, or_false] at hy
      subst hy
      show ψ n ≠ _
      rw [e2]
      have := fzlt x hx
      omega
  · obtain ⟨y, hy, rfl⟩ := List.mem_map.1 hb
    obtain ⟨z, hz', rfl⟩ := List.mem_map.1 hc
    rcases List.mem_append.1 hy with hy | hy <;> rcases List.mem_append.1 hz' with hz' | hz'
    · rw [e1 _ (inb y hy), e1 _ (inb z hz')] at e
      exact A'.inj2 hy hz' e
    · simp only [List.mem_cons, List.not_mem_nil, or_false] at hz'
      subst hz'
      have e : ψ y.1 = ψ n := e
      rw [e1 _ (inb y hy), e2] at e
      have := lt y hy
      omega
    · simp only [List.mem_cons, List.not_mem_nil, or_false] at hy
      subst hy
      have e : ψ n = ψ z.1 := e
      rw [e1 _ (inb z hz'), e2] at e
      have := lt z hz'
      omega
    · simp only [List.mem_cons, List.not_mem_nil, or_false] at hy hz'
      subst hy hz'
      rfl
  · rcases List.mem_append.1 hx with hx | hx
    · rw [e1 _ (inb x hx), get _ (lt x hx), eachX_mem A'.at_ x hx]
      congr 1
      exact (oren_congr (p := fun c => !Nat.beq c n) (fun b hb => e1 b (ne hb)) (hnm x hx)).symm
    · simp only [List.mem_cons, List.not_mem_nil, or_false] at hx
      subst hx
      show (s'.push o).get (ψ n) = _
      rw [e2, get_push, if_pos rfl]
      congr 1
      rw [oren_congr (p := fun _ => false) (π' := fun b => b) (fun _ h => by cases h) ho, oren_id]
  · simp only [AS.push, List.map_cons, List.mem_cons] at hk
    rcases hk with rfl | hk
    · exact Nat.lt_succ_self _
    · exact Nat.lt_succ_of_lt (A'.keys k hk)
  · obtain ⟨y, hy, rfl⟩ := List.mem_map.1 hb
    rcases List.mem_append.1 hy with hy | hy
    · rw [e1 _ (inb y hy)]
      exact M.old _ (List.mem_map.2 ⟨y, hy, rfl⟩)
    · simp only [List.mem_cons, List.not_mem_nil, or_false] at hy
      subst hy
      refine .inr ?_
      show s.nx ≤ ψ n
      rw [e2]
      exact M.nx
  · have hk : (if b = n then n + 1 else κ b) = b := hk
    have hne : b ≠ n := fun e => by rw [if_pos e] at hk; omega
    rw [if_neg hne] at hk
    exact (e1 b hne).trans (M.low b hb hk)
  · rw [get c (by have := M.nx; omega)]
    exact M.rest c hc hd
  · have := M.nx
    show s.nx ≤ s'.nx + 1
    omega
end Go.Mini
namespace Go.Proofs.YtcnfblibfndepaaGreatDoor.ctlsCover
open Go Go.Mini
/-! ### a step of the Switch, wherever it lies -/
theorem NX_lt {σ : SS} {to n15 n16 : Nat} {nxt : AV} {O : Nat → AObj} (h : NX σ to n15 n16 nxt O) (p : Nat → Bool) (h11 : p 11 = true) (h15 : p n15 = true) (h16 : p n16 = true) : nxt.names p = true := by
  unfold NX at h
  split at h
  · rw [h]; rfl
  · rw [h]; show ((p 11 && true) && true) = true; rw [h11]; rfl
  · rw [h.1]; show (true && (p n15 && (p n16 && true))) = true; rw [h15, h16]; rfl
  · rw [h.1]; show (true && (p n15 && (p n16 && true))) = true; rw [h15, h16]; rfl
  · rw [h.1]; show (true && (p n15 && true)) = true; rw [h15]; rfl
  · rw [h]; show ((p 11 && true) && true) = true; rw [h11]; rfl
  · rw [h.1]; show (true && (p n15 && (p n16 && true))) = true; rw [h15, h16]; rfl
  · rw [h.1]; show (true && (p n15 && true)) = true; rw [h15]; rfl
  · rw [h]; show ((p 11 && true) && true) = true; rw [h11]; rfl
theorem WX_lt {σ : SS} {n13 : Nat} {bpx : AV} {O : Nat → AObj} (h : WX σ n13 bpx O) (p : Nat → Bool) (h13 : p n13 = true) : bpx.names p = true := by
  unfold WX at h
  split at h
  · rw [h.1]; exact h13
  · rcases h with ⟨e, _⟩ | ⟨_, e, _⟩ <;> rw [e]
    · rfl
    · exact h13
theorem X_lt {σ : SS} {to n13 n15 n16 : Nat} {lk : Int} {nxt : AV} {xa xb xc xn : Nat} {bpx : AV} {O : Nat → AObj} (h : XS σ to n13 n15 n16 nxt xa xb xc xn bpx O) (p : Nat → Bool) (h11 : p 11 = true) (h13 : p n13 = true) (h15 : p n15 = true) (h16 : p n16 = true) : namess p (σ.X to lk nxt xa xb xc xn bpx) = true := by
  show (nxt.names p && (true && (true && (true && (true && (true && (true && (true && (true && (true && (bpx.names p && true))))))))))) = true
  rw [NX_lt h.nx p h11 h15 h16, WX_lt h.wx p h13]
  rfl
theorem X_all {σ : SS} {to xa xb xc xn : Nat} {lk : Int} {m : PM} {h : AH} {nxt bpx : AV} {o13 o15 o16 d1 d2 d3 : AObj} (hO : σ.Ok to lk) (k11 : AS.get ⟨h, 17⟩ 11 = some (.cells false (σ.X to lk nxt xa xb xc xn bpx))) (k7 : AS.get ⟨h, 17⟩ 7 = some (.cells false (m.C (.map 8)))) (k8 : AS.get ⟨h, 17⟩ 8 = some (mapO m.ms)) (k13 : AS.get ⟨h, 17⟩ 13 = some o13) (k15 : AS.get ⟨h, 17⟩ 15 = some o15) (k16 : AS.get ⟨h, 17⟩ 16 = some o16)
    (kG : ∀ x ∈ GF, ∃ ro, AS.get ⟨h, 17⟩ x.1 = some (.cells ro x.2)) (h13 : Lx o13) (h15 : Lx o15) (h16 : Lx o16) (hX : XS σ to 13 15 16 nxt xa xb xc xn bpx (O6 o13 o15 o16 d1 d2 d3)) (hmv : ∀ a, getW m.ms a < 18446744073709551616) :
    XC to lk h (σ.step to lk m) := by
  obtain ⟨ln, en, w, wt, a, b, c, n, br⟩ := σ
  have h1 : 1 ≤ ln ∧ ln ≤ 8 := hO.ln
  have h2 : en = 4 := hO.en
  subst h2
  have hln : ln = 1 ∨ ln = 2 ∨ ln = 3 ∨ ln = 4 ∨ ln = 5 ∨ ln = 6 ∨ ln = 7 ∨ ln = 8 := by omega
  rcases hln with rfl | rfl | rfl | rfl | rfl | rfl | rfl | rfl
  · exact X_1 hO k11 k7 k8 k13 k15 k16 kG h13 h15 h16 hX hmv
  · exact X_2 hO k11 k7 k8 k13 k15 k16 kG h13 h15 h16 hX hmv
  · exact X_3 hO k11 k7 k8 k13 k15 k16 kG h13 h15 h16 hX hmv
  · exact X_4 hO k11 k7 k8 k13 k15 k16 kG h13 h15 h16 hX hmv
  · exact X_5 hO k11 k7 k8 k13 k15 k16 kG h13 h15 h16 hX hmv
  · exact X_6 hO k11 k7 k8 k13 k15 k16 kG h13 h15 h16 hX hmv
  · exact X_7 hO k11 k7 k8 k13 k15 k16 kG h13 h15 h16 hX hmv
  · exact X_8 hO k11 k7 k8 k13 k15 k16 kG h13 h15 h16 hX hmv
theorem O6_13 (a b c d e f : AObj) : O6 a b c d e f 13 = a := rfl
theorem O6_15 (a b c d e f : AObj) : O6 a b c d e f 15 = b := rfl
theorem O6_16 (a b c d e f : AObj) : O6 a b c d e f 16 = c := rfl
theorem XS.canon {σ : SS} {to n13 n15 n16 : Nat} {nxt : AV} {xa xb xc xn : Nat} {bpx : AV} {O : Nat → AObj} (h : XS σ to n13 n15 n16 nxt xa xb xc xn bpx O) :
    ∃ nxt0 bpx0, XS σ to 13 15 16 nxt0 xa xb xc xn bpx0 (O6 (O n13) (O n15) (O n16) .dead .dead .dead) ∧ ∀ π : Nat → Nat, π 11 = 11 → π 13 = n13 → π 15 = n15 → π 16 = n16 → nxt0.ren π = nxt ∧ bpx0.ren π = bpx := by
  obtain ⟨hn, hw, hp⟩ := h
  have h1 : ∃ nxt0, NX σ to 15 16 nxt0 (O6 (O n13) (O n15) (O n16) .dead .dead .dead) ∧ ∀ π : Nat → Nat, π 11 = 11 → π 15 = n15 → π 16 = n16 → nxt0.ren π = nxt := by
    obtain ⟨ln, en, w, wt, a, b, c, n, br⟩ := σ
    unfold NX at hn ⊢
    simp only [O6_15, O6_16] at hn ⊢
    split at hn
    · exact ⟨_, rfl, fun π _ _ _ => by rw [hn]; rfl⟩
    · exact ⟨_, rfl, fun π e _ _ => by rw [hn]; show AV.func _ [.ptr (π 11) 0] [] = _; rw [e]⟩
    · exact ⟨_, ⟨rfl, hn.2⟩, fun π _ e f => by rw [hn.1]; show AV.func _ [] [.ptr (π 15) 0, .ptr (π 16) 0] = _; rw [e, f]⟩
    · exact ⟨_, ⟨rfl, hn.2⟩, fun π _ e f => by rw [hn.1]; show AV.func _ [] [.ptr (π 15) 0, .ptr (π 16) 0] = _; rw [e, f]⟩
    · exact ⟨_, ⟨rfl, hn.2⟩, fun π _ e f => by rw [hn.1]; show AV.func _ [] [.ptr (π 15) 0] = _; rw [e]⟩
    · exact ⟨_, rfl, fun π e _ _ => by rw [hn]; show AV.func _ [.ptr (π 11) 0] [] = _; rw [e]⟩
    · exact ⟨_, ⟨rfl, hn.2⟩, fun π _ e f => by rw [hn.1]; show AV.func _ [] [.ptr (π 15) 0, .ptr (π 16) 0] = _; rw [e, f]⟩
    · exact ⟨_, ⟨rfl, hn.2⟩, fun π _ e f => by rw [hn.1]; show AV.func _ [] [.ptr (π 15) 0] = _; rw [e]⟩
    · exact ⟨_, rfl, fun π e _ _ => by rw [hn]; show AV.func _ [.ptr (π 11) 0] [] = _; rw [e]⟩
  have h2 : ∃ bpx0, WX σ 13 bpx0 (O6 (O n13) (O n15) (O n16) .dead .dead .dead) ∧ ∀ π : Nat → Nat, π 13 = n13 → bpx0.ren π = bpx := by
    unfold WX at hw ⊢
    simp only [O6_13]
    split at hw
    · rename_i hl
      simp only [if_pos hl]
      exact ⟨_, ⟨rfl, hw.2⟩, fun π e => by rw [hw.1]; show AV.ptr (π 13) 0 = _; rw [e]⟩
    · rename_i hl
      simp only [if_neg hl]
      rcases hw with ⟨e1, e2⟩ | ⟨e0, e1, e2⟩
      · exact ⟨_, .inl ⟨rfl, e2⟩, fun π _ => by rw [e1]; rfl⟩
      · exact ⟨_, .inr ⟨e0, rfl, e2⟩, fun π e => by rw [e1]; show AV.ptr (π 13) 0 = _; rw [e]⟩
  obtain ⟨x0, a1, a2⟩ := h1
  obtain ⟨b0, c1, c2⟩ := h2
  exact ⟨x0, b0, ⟨a1, c1, hp⟩, fun π e1 e2 e3 e4 => ⟨a2 π e1 e3 e4, c2 π e2⟩⟩
def XB (σ : SS) (to : Nat) (lk : Int) (nxt : AV) (xa xb xc xn : Nat) (bpx : AV) (o13 o15 o16 : AObj) : List (Nat × AObj) := [(11, .cells false (σ.X to lk nxt xa xb xc xn bpx)), (13, o13), (15, o15), (16, o16)]
/-- A Switch, as it lies. -/
structure XAt (σ : SS) (to : Nat) (lk : Int) (C : List (Nat × AObj)) : Prop where
  ex : ∃ nxt xa xb xc xn bpx o13 o15 o16, C = XB σ to lk nxt xa xb xc xn bpx o13 o15 o16 ∧ Lx o13 ∧ Lx o15 ∧ Lx o16 ∧ XS σ to 13 15 16 nxt xa xb xc xn bpx (O6 o13 o15 o16 .dead .dead .dead)
def kap (n13 n15 n16 b : Nat) : Nat := if b = 13 then n13 else if b = 15 then n15 else if b = 16 then n16 else b
theorem sw_at {σ : SS} {to : Nat} {lk : Int} {m : PM} {C : List (Nat × AObj)} (hO : σ.Ok to lk) (hC : XAt σ to lk C) (hmv : ∀ a, getW m.ms a < 18446744073709551616) :
    ∃ C' κ, XAt (σ.step to lk m).1 to lk C' ∧ StepF Tryz.prog GF 17 12 [.ptr 11 0, .ptr 7 0] (.bool (decide ((σ.step to lk m).1.ln = 0))) (memP m ++ C) (memP (σ.step to lk m).2 ++ C') κ ∧ κ 7 = 7 ∧ κ 8 = 8 ∧ κ 11 = 11 := by
  obtain ⟨nxt, xa, xb, xc, xn, bpx, o13, o15, o16, rfl, h13, h15, h16, hX⟩ := hC.ex
  obtain ⟨nxt', xa', xb', xc', xn', bpx', n13, n15, n16, o13', o15', o16', p1, p2, p3, q13, q15, q16, hne, m13, m15, m16, mp1, mp2, mp3, hX', hS⟩ := X_all (h := (⟨(memP m ++ XB σ to lk nxt xa xb xc xn bpx o13 o15 o16) ++ frz GF, 9, none, []⟩ : AH)) (m := m) hO rfl rfl rfl rfl rfl rfl (fun x hx => by
    simp only [GF, List.mem_cons, List.not_mem_nil, or_false] at hx
    rcases hx with rfl | rfl | rfl <;> exact ⟨true, rfl⟩) h13 h15 h16 hX hmv
  generalize σ.step to lk m = r at *
  obtain ⟨σ', m'⟩ := r
  obtain ⟨nxt0, bpx0, hX0, hren⟩ := hX'.canon
  have lx : ∀ n, Lx (O6 o13' o15' o16' p1 p2 p3 n) := fun n => by
    unfold O6
    repeat' split
    all_goals assumption
  have rr := hren (kap n13 n15 n16) rfl rfl rfl rfl
  refine ⟨XB σ' to lk nxt0 xa' xb' xc' xn' bpx0 (O6 o13' o15' o16' p1 p2 p3 n13) (O6 o13' o15' o16' p1 p2 p3 n15) (O6 o13' o15' o16' p1 p2 p3 n16), kap n13 n15 n16, ⟨nxt0, xa', xb', xc', xn', bpx0, _, _, _, rfl, lx _, lx _, lx _, hX0⟩, ?_, rfl, rfl, rfl⟩
  have p17 : ∀ (l : List Nat), pN 17 l 11 = true := fun l => rfl
  have i13 : pN 17 [17, 18, 19] n13 = true := by rcases q13 with rfl | rfl <;> rfl
  have i15 : pN 17 [17, 18, 19] n15 = true := by rcases q15 with rfl | rfl | rfl <;> rfl
  have i16 : pN 17 [17, 18, 19] n16 = true := by rcases q16 with rfl | rfl <;> rfl
  have xn0 := X_lt (lk := lk) hX (fun b => Nat.blt b 17) rfl rfl rfl rfl
  have xn1 := X_lt (lk := lk) hX' (pN 17 [17, 18, 19]) rfl i13 i15 i16
  obtain ⟨S1, hS1⟩ : ∃ S1 : AS, S1 = (((((((((⟨(⟨(memP m ++ XB σ to lk nxt xa xb xc xn bpx o13 o15 o16) ++ frz GF, 9, none, []⟩ : AH), 17⟩ : AS).set 11 (.cells false (σ'.X to lk nxt' xa' xb' xc' xn' bpx'))).set 7 (.cells false (m'.C (.map 8)))).set 8 (mapO m'.ms)).set 13 o13').set 15 o15').set 16 o16').push p1).push p2).push p3 := ⟨_, rfl⟩
  have g11 : S1.get 11 = some (.cells false (σ'.X to lk nxt' xa' xb' xc' xn' bpx')) := by rw [hS1]; rfl
  have g7 : S1.get 7 = some (.cells false (m'.C (.map 8))) := by rw [hS1]; rfl
  have g8 : S1.get 8 = some (mapO m'.ms) := by rw [hS1]; rfl
  have g13 : S1.get 13 = some o13' := by rw [hS1]; rfl
  have g15 : S1.get 15 = some o15' := by rw [hS1]; rfl
  have g16 : S1.get 16 = some o16' := by rw [hS1]; rfl
  have g17 : S1.get 17 = some p1 := by rw [hS1]; rfl
  have g18 : S1.get 18 = some p2 := by rw [hS1]; rfl
  have g19 : S1.get 19 = some p3 := by rw [hS1]; rfl
  have hS : Sound Tryz.prog (.call 12 [.ptr 11 0, .ptr 7 0] (canF (memP m ++ XB σ to lk nxt xa xb xc xn bpx o13 o15 o16) GF 9 17)) ⟨.ret, [.bool (decide (σ'.ln = 0))], S1⟩ := by rw [hS1]; exact hS
  clear hS1
  have ob : ∀ {b : Nat} {o : AObj}, S1.get b = some o → objAt S1 b = o := fun h => by simp [objAt, h]
  have k13 : S1.get n13 = some (O6 o13' o15' o16' p1 p2 p3 n13) := by rcases q13 with rfl | rfl <;> assumption
  have k15 : S1.get n15 = some (O6 o13' o15' o16' p1 p2 p3 n15) := by rcases q15 with rfl | rfl | rfl <;> assumption
  have k16 : S1.get n16 = some (O6 o13' o15' o16' p1 p2 p3 n16) := by rcases q16 with rfl | rfl <;> assumption
  have x11 : S1.get 11 = some ((AObj.cells false (σ'.X to lk nxt0 xa' xb' xc' xn' bpx0)).ren (kap n13 n15 n16)) := by
    show _ = some (AObj.cells false (σ'.X to lk (nxt0.ren (kap n13 n15 n16)) xa' xb' xc' xn' (bpx0.ren (kap n13 n15 n16))))
    rw [rr.1, rr.2]
    exact g11
  have keys : ∀ {σ : SS} {nxt : AV} {xa xb xc xn : Nat} {bpx : AV} {o13 o15 o16 : AObj} {m : PM}, (memP m ++ XB σ to lk nxt xa xb xc xn bpx o13 o15 o16).map (·.1) = [7, 8, 11, 13, 15, 16] := rfl
  have kin : ∀ b ∈ [7, 8, 11, 13, 15, 16], kap n13 n15 n16 b ∈ [7, 8, 11, 13, 15, 16] ∨ kap n13 n15 n16 b ∈ [17, 18, 19] := by
    rcases q13 with rfl | rfl <;> rcases q15 with rfl | rfl | rfl <;> rcases q16 with rfl | rfl <;> decide
  have kj : ∀ b ∈ [7, 8, 11, 13, 15, 16], ∀ c ∈ [7, 8, 11, 13, 15, 16], kap n13 n15 n16 b = kap n13 n15 n16 c → b = c := by
    rcases q13 with rfl | rfl <;> rcases q15 with rfl | rfl | rfl <;> rcases q16 with rfl | rfl <;> first | decide | exact absurd rfl hne
  refine step_mk hS [17, 18, 19] ⟨by rw [glN]; decide, ⟨⟨show 7 < 17 by decide, rfl, rfl, rfl⟩, ⟨show 8 < 17 by decide, rfl, mapO_names _ _, rfl⟩, ⟨show 11 < 17 by decide, rfl, xn0, rfl⟩, ⟨show 13 < 17 by decide, h13.1, h13.nm rfl, rfl⟩, ⟨show 15 < 17 by decide, h15.1, h15.nm rfl, rfl⟩, ⟨show 16 < 17 by decide, h16.1, h16.nm rfl, rfl⟩, trivial⟩, by rw [keys]; decide, fun x hx => ?_⟩ (by decide) (fun b hb => ?_) (fun g hg => ?_) (fun x hx => ?_)
    ⟨⟨by rw [keys]; exact kin 7 (by decide), g7⟩, ⟨by rw [keys]; exact kin 8 (by decide), by rw [mapO_ren]; exact g8⟩, ⟨by rw [keys]; exact kin 11 (by decide), x11⟩, ⟨by rw [keys]; exact kin 13 (by decide), by rw [(lx n13).ren rfl]; exact k13⟩, ⟨by rw [keys]; exact kin 15 (by decide), by rw [(lx n15).ren rfl]; exact k15⟩, ⟨by rw [keys]; exact kin 16 (by decide), by rw [(lx n16).ren rfl]; exact k16⟩, trivial⟩
    (by rw [keys]; exact kj) rfl ⟨⟨.inl (by rw [ob g7]; rfl), by rw [ob g7]; rfl⟩, ⟨.inl (by rw [ob g8]; rfl), by rw [ob g8]; exact mapO_names _ _⟩, ⟨.inl (by rw [ob g11]; rfl), by rw [ob g11]; exact xn1⟩, ⟨.inl (by rw [ob g13]; exact m13.1), by rw [ob g13]; exact m13.nm rfl⟩, ⟨.inl (by rw [ob g15]; exact m15.1), by rw [ob g15]; exact m15.nm rfl⟩, ⟨.inl (by rw [ob g16]; exact m16.1), by rw [ob g16]; exact m16.nm rfl⟩, trivial⟩ rfl rfl
  · have h3 := (gz x hx).1
    refine ⟨by omega, ?_, (gz x hx).2⟩
    rw [keys]
    intro hm
    simp only [List.mem_cons, List.not_mem_nil, or_false] at hm
    omega
  · simp only [List.mem_cons, List.not_mem_nil, or_false] at hb
    rcases hb with rfl | rfl | rfl
    · rw [ob g17]; exact ⟨by omega, mp1.1, mp1.nm rfl⟩
    · rw [ob g18]; exact ⟨by omega, mp2.1, mp2.nm rfl⟩
    · rw [ob g19]; exact ⟨by omega, mp3.1, mp3.nm rfl⟩
  · rw [glN] at hg
    unfold kap
    rw [if_neg (by omega), if_neg (by omega), if_neg (by omega)]
  · have h3 := (gz x hx).1
    unfold kap
    rw [if_neg (by omega), if_neg (by omega), if_neg (by omega)]
end Go.Proofs.YtcnfblibfndepaaGreatDoor.ctlsCover
namespace Go.Proofs.YtcnfblibfndepaaGreatDoor.ctlsCover
open Go Go.Mini
/-! ### small contracts: what hangs on its arguments alone, and a guard's readers -/
theorem run0 {n f : Nat} {t : Go.Mini.Task} {ds : List Dec} {v : AV} {q : List Qst} (h : (runX Tryz.prog none_ n f t ds).map (fun x => (x.1.ts, x.2.2)) = some ([v], q)) (hq : Qsts Tryz.prog q) : ∃ e s1, Sound Tryz.prog t ⟨e, [v], s1⟩ := by
  cases hr : runX Tryz.prog none_ n f t ds with
  | none => rw [hr] at h; cases h
  | some x =>
    rw [hr] at h
    obtain ⟨⟨e, ts, s1⟩, ds', q'⟩ := x
    simp only [Option.map_some, Option.some.injEq, Prod.mk.injEq] at h
    obtain ⟨rfl, rfl⟩ := h
    exact ⟨e, s1, runX_sound mixed none_sound hr hq⟩
theorem pure0 {n f : Nat} {g : FuncId} {args : List AV} {G : List (Nat × List AV)} {ds : List Dec} {v : AV} {q : List Qst} (h : (runX Tryz.prog none_ n f (.call g args (startS Tryz.prog G)) ds).map (fun x => (x.1.ts, x.2.2)) = some ([v], q)) (hq : Qsts Tryz.prog q) (hl : lowG Tryz.prog G = true) (ha : lowNames Tryz.prog args = true) (hv : lowNames Tryz.prog [v] = true) : (Qst.pure G g args v).ok Tryz.prog := fun s hs => by
  obtain ⟨e, s1, h1⟩ := run0 h hq
  exact Sound.pure h1 hl ha hv hs
theorem first_run (th : Nat) : (runX Tryz.prog none_ 60 67 (.call 67 [i64 (Int.ofNat th)] (startS Tryz.prog [])) [.val 67 1 1 (.bool false), .val 67 1 4 (.bool false)]).map (fun x => (x.1.ts, x.2.2)) = some ([.agg [i64 1, u64 0]], [.val (some (.bool (decide (Int.ofNat th < 0)))) (.bool false), .val (some (.bool (decide (Int.ofNat th ≥ 16)))) (.bool false)]) := by kernel_rfl
theorem elines_run (th n : Nat) : (runX Tryz.prog none_ 60 69 (.call 69 [i64 (Int.ofNat th), i64 (Int.ofNat n)] (startS Tryz.prog [])) [.val 69 1 1 (.bool false), .val 69 1 4 (.bool false)]).map (fun x => (x.1.ts, x.2.2)) = some ([i64 (Int.ofNat n)], [.val (some (.bool (decide (Int.ofNat th < 0)))) (.bool false), .val (some (.bool (decide (Int.ofNat th ≥ 16)))) (.bool false)]) := by kernel_rfl
theorem threaded_run (th : Nat) : (runX Tryz.prog none_ 60 68 (.call 68 [i64 (Int.ofNat th)] (startS Tryz.prog [])) [.val 68 1 1 (.bool true), .val 68 1 4 (.bool true)]).map (fun x => (x.1.ts, x.2.2)) = some ([.bool true], [.val (some (.bool (decide (Int.ofNat th ≥ 0)))) (.bool true), .val (some (.bool (decide (Int.ofNat th < 16)))) (.bool true)]) := by kernel_rfl
theorem th_q {th : Nat} (h : th < 4) : (Qst.val (some (.bool (decide (Int.ofNat th < 0)))) (.bool false)).ok Tryz.prog ∧ (Qst.val (some (.bool (decide (Int.ofNat th ≥ 16)))) (.bool false)).ok Tryz.prog ∧ (Qst.val (some (.bool (decide (Int.ofNat th ≥ 0)))) (.bool true)).ok Tryz.prog ∧ (Qst.val (some (.bool (decide (Int.ofNat th < 16)))) (.bool true)).ok Tryz.prog := by
  refine ⟨?_, ?_, ?_, ?_⟩ <;> simp only [Qst.ok, Option.some.injEq, AV.bool.injEq, decide_eq_true_eq, decide_eq_false_iff_not, Int.ofNat_eq_natCast] <;> omega
theorem qE_ok {th : Nat} (h : th < 4) : Qsts Tryz.prog (qE th) := ⟨pure0 (first_run th) ⟨(th_q h).1, (th_q h).2.1, trivial⟩ rfl rfl rfl, trivial⟩
theorem qI_ok {th : Nat} (h : th < 4) : Qsts Tryz.prog (qI th) := ⟨pure0 (elines_run th 3) ⟨(th_q h).1, (th_q h).2.1, trivial⟩ rfl rfl rfl, trivial⟩
theorem qI2_ok {th : Nat} (h : th < 4) : Qsts Tryz.prog (qI2 th) := ⟨pure0 (elines_run th 2) ⟨(th_q h).1, (th_q h).2.1, trivial⟩ rfl rfl rfl, trivial⟩
theorem qH_ok {th : Nat} (h : th < 4) : Qsts Tryz.prog (qH th) := ⟨pure0 (threaded_run th) ⟨(th_q h).2.2.1, (th_q h).2.2.2, trivial⟩ rfl rfl rfl, trivial⟩
def phT : List (Nat × Nat × Nat) := [(0, 1, 0), (0, 2, 0), (0, 4, 0)] ++ [1, 2, 3].flatMap fun a => [(a, 1, 2), (a, 1, 4), (a, 2, 1), (a, 2, 4), (a, 4, 1), (a, 4, 2)]
theorem ph_in {a b c : Nat} (ha : a ≤ 3) (h : mayP a b c = true) : (a, b, c) ∈ phT := by
  obtain ⟨h1, h2⟩ := may_cases h
  rcases h2 with ⟨rfl, rfl⟩ | ⟨h0, h2, h3⟩
  · rcases sg_cases h1 with rfl | rfl | rfl <;> decide
  · have : a = 1 ∨ a = 2 ∨ a = 3 := by omega
    rcases this with rfl | rfl | rfl <;> rcases sg_cases h1 with rfl | rfl | rfl <;> rcases sg_cases h2 with rfl | rfl | rfl <;> first | exact absurd rfl h3 | decide
def byP (a b c : Nat) : Nat := if a = 3 then c else b
theorem mode_run (n : Nat) : ∀ p ∈ phT, (runX Tryz.prog none_ 60 120 (.call 120 [.agg (phC p.1 p.2.1 p.2.2 n)] (startS Tryz.prog GP)) []).map (fun x => (x.1.ts, x.2.2)) = some ([.int .u8 (Int.ofNat (modeP p.1 p.2.1 p.2.2))], []) :=
  fc (by kernel_rfl) (fc (by kernel_rfl) (fc (by kernel_rfl) (fc (by kernel_rfl) (fc (by kernel_rfl) (fc (by kernel_rfl) (fc (by kernel_rfl) (fc (by kernel_rfl) (fc (by kernel_rfl) (fc (by kernel_rfl) (fc (by kernel_rfl) (fc (by kernel_rfl) (fc (by kernel_rfl) (fc (by kernel_rfl) (fc (by kernel_rfl) (fc (by kernel_rfl) (fc (by kernel_rfl) (fc (by kernel_rfl) (fc (by kernel_rfl) (fc (by kernel_rfl) (fc (by kernel_rfl) (fn)))))))))))))))))))))
theorem by_run (n : Nat) : ∀ p ∈ phT, (runX Tryz.prog none_ 60 33 (.call 33 [.agg (phC p.1 p.2.1 p.2.2 n)] (startS Tryz.prog [])) []).map (fun x => (x.1.ts, x.2.2)) = some ([.int .u8 (Int.ofNat (byP p.1 p.2.1 p.2.2))], []) :=
  fc (by kernel_rfl) (fc (by kernel_rfl) (fc (by kernel_rfl) (fc (by kernel_rfl) (fc (by kernel_rfl) (fc (by kernel_rfl) (fc (by kernel_rfl) (fc (by kernel_rfl) (fc (by kernel_rfl) (fc (by kernel_rfl) (fc (by kernel_rfl) (fc (by kernel_rfl) (fc (by kernel_rfl) (fc (by kernel_rfl) (fc (by kernel_rfl) (fc (by kernel_rfl) (fc (by kernel_rfl) (fc (by kernel_rfl) (fc (by kernel_rfl) (fc (by kernel_rfl) (fc (by kernel_rfl) (fn)))))))))))))))))))))
theorem modeq {a b c n : Nat} (ha : a ≤ 3) (h : mayP a b c = true) : (Qst.pure GP 120 [.agg (phC a b c n)] (.int .u8 (Int.ofNat (modeP a b c)))).ok Tryz.prog := pure0 (mode_run n (a, b, c) (ph_in ha h)) trivial rfl rfl rfl
theorem byq {a b c n : Nat} (ha : a ≤ 3) (h : mayP a b c = true) : (Qst.pure [] 33 [.agg (phC a b c n)] (.int .u8 (Int.ofNat (byP a b c)))).ok Tryz.prog := pure0 (by_run n (a, b, c) (ph_in ha h)) trivial rfl rfl rfl
/-! a guard's readers -/
def gC (th : Nat) (i : Bool) (md hi l : Nat) : List AV := [.bool i, .int .u8 (Int.ofNat md), u64 hi, u64 0, u64 0, u64 0, .bool true, i64 (Int.ofNat th), .ptr l 0]
def s10 (cs : List AV) : AS := ⟨⟨[(10, .cells true cs)], 1, none, []⟩, 12⟩
theorem in_run (th : Nat) (i : Bool) (md hi : Nat) : (runX Tryz.prog none_ 60 22 (.call 22 [.ptr 10 0] (s10 (gC th i md hi 11))) []).map (fun x => (x.1.ts, x.2.2)) = some ([.bool i], []) := by kernel_rfl
theorem gmode_run (th md hi : Nat) : (runX Tryz.prog none_ 60 34 (.call 34 [.ptr 10 0] (s10 (gC th true md hi 11))) []).map (fun x => (x.1.ts, x.2.2)) = some ([.int .u8 (Int.ofNat md)], []) := by kernel_rfl
def p10 (g l b : Nat) : Nat := if b = 10 then g else if b = 11 then l else b
theorem read10 {f : FuncId} {cs : List AV} {v : AV} {e : AExit} {s1 s : AS} {g l : Nat} {ro : Bool} (h : Sound Tryz.prog (.call f [.ptr 10 0] (s10 cs)) ⟨e, [v], s1⟩) (hn : namess (fun b => Nat.blt b 12) cs = true) (hv : v.names (fun _ => false) = true) (hg : s.get g = some (.cells ro (rens (p10 g l) cs))) : Sound Tryz.prog (.call f [.ptr g 0] s) ⟨.ret, [v], s⟩ := by
  have := Sound.frame h (p10 g l) s (fun b hb => ⟨by rw [glN] at hb; show b < 12; omega, by rw [glN] at hb; unfold p10; rw [if_neg (by omega), if_neg (by omega)]⟩) (fun k hk => ?_) (fun b o hb => ?_) (show namess (fun b => Nat.blt b 12) [.ptr 10 0] = true from rfl) (names_sub (fun _ h => by cases h) hv) .ret
  · rw [ren_congr (p := fun _ => false) (π' := fun b => b) (fun _ h => by cases h) hv, ren_id] at this
    exact this
  · simp only [s10, List.map_cons, List.map_nil, List.mem_cons, List.not_mem_nil, or_false] at hk
    subst hk
    show 10 < 12
    decide
  · have hb : (if Nat.beq 10 b then some (AObj.cells true cs) else none) = some o := hb
    split at hb
    · rename_i e
      have := Nat.eq_of_beq_eq_true e
      subst this
      exact ⟨cs, ro, (Option.some.inj hb).symm, hn, hg⟩
    · cases hb
theorem in_at {s : AS} {g l th md hi : Nat} {i ro : Bool} (hg : s.get g = some (.cells ro (gC th i md hi l))) : Sound Tryz.prog (.call 22 [.ptr g 0] s) ⟨.ret, [.bool i], s⟩ := by
  obtain ⟨e, s1, h⟩ := run0 (in_run th i md hi) trivial
  exact read10 (l := l) h rfl rfl hg
theorem gmode_at {s : AS} {g l th md hi : Nat} {ro : Bool} (hg : s.get g = some (.cells ro (gC th true md hi l))) : Sound Tryz.prog (.call 34 [.ptr g 0] s) ⟨.ret, [.int .u8 (Int.ofNat md)], s⟩ := by
  obtain ⟨e, s1, h⟩ := run0 (gmode_run th md hi) trivial
  exact read10 (l := l) h rfl rfl hg
theorem got_n (to : Nat) (lk : Int) (w en xa xb xc xn : Nat) : (runX Tryz.prog none_ 60 14 (.call 14 [.ptr 10 0] (s10 [.nilFunc, .int .i64 (Int.ofNat en), .bool true, .int .u8 (Int.ofNat to), .int .i64 lk, .int .u64 (Int.ofNat w), .int .u8 (Int.ofNat xa), .int .u8 (Int.ofNat xb), .int .u8 (Int.ofNat xc), .int .u64 (Int.ofNat xn), .nilPtr])) []).map (fun x => (x.1.ts, x.2.2)) = some ([i64 (Int.ofNat en)], []) := by kernel_rfl
theorem got_p (to : Nat) (lk : Int) (w en xa xb xc xn : Nat) : (runX Tryz.prog none_ 60 14 (.call 14 [.ptr 10 0] (s10 [.nilFunc, .int .i64 (Int.ofNat en), .bool true, .int .u8 (Int.ofNat to), .int .i64 lk, .int .u64 (Int.ofNat w), .int .u8 (Int.ofNat xa), .int .u8 (Int.ofNat xb), .int .u8 (Int.ofNat xc), .int .u64 (Int.ofNat xn), .ptr 11 0])) []).map (fun x => (x.1.ts, x.2.2)) = some ([i64 (Int.ofNat en)], []) := by kernel_rfl
theorem got_at {σ : SS} {to : Nat} {lk : Int} {C : List (Nat × AObj)} {s : AS} {π : Nat → Nat} (hX : XAt σ to lk C) (h0 : σ.ln = 0) (hc : ∀ x ∈ C, s.get (π x.1) = some (x.2.ren π)) : Sound Tryz.prog (.call 14 [.ptr (π 11) 0] s) ⟨.ret, [i64 (Int.ofNat σ.en)], s⟩ := by
  obtain ⟨nxt, xa, xb, xc, xn, bpx, o13, o15, o16, rfl, h13, h15, h16, hXS⟩ := hX.ex
  have hg := hc (11, _) (List.mem_cons_self)
  have hn := hXS.nx
  unfold NX at hn
  rw [h0] at hn
  have hn : nxt = .nilFunc := hn
  subst hn
  have hw := hXS.wx
  have hb : bpx = .nilPtr ∨ bpx = .ptr 13 0 := by
    unfold WX at hw
    split at hw
    · exact .inr hw.1
    · rcases hw with h | h
      · exact .inl h.1
      · exact .inr h.2.1
  have e0 : (if σ.ln = 0 then σ.en else 0) = σ.en := if_pos h0
  unfold SS.X at hg
  rw [e0] at hg
  rcases hb with rfl | rfl
  · obtain ⟨e, s1, h⟩ := run0 (got_n to lk σ.w σ.en xa xb xc xn) trivial
    exact read10 (l := 0) h rfl rfl hg
  · obtain ⟨e, s1, h⟩ := run0 (got_p to lk σ.w σ.en xa xb xc xn) trivial
    exact read10 (l := π 13) h rfl rfl hg
/-! now; a new Switch -/
def gdW (v a b c n : Nat) (M2 : PM) : GD := ⟨10, [.ptr 7 0], [], [], [], [], .agg (phC a b c n), [.call 10 1 2 (u64 v) (tfL M2), .pure 10 1 3 GW (.agg (phC a b c n))], some (28, [.ptr 7 0, .agg (ak aP)], u64 v, tfL M2), [.pure GW 27 [u64 v] (.agg (phC a b c n))]⟩
theorem now_run (v a b c n : Nat) (M M2 : PM) (O : AObj) : GdOk (gdW v a b c n M2) M M2 O O := ⟨by kernel_rfl, by kernel_rfl⟩
theorem now_step {M : PM} {a b c n : Nat} (h : PhW M a b c n) (hl : ∀ x, getW M.ms x < 18446744073709551616) : StepF Tryz.prog GF 20 10 [.ptr 7 0] (.agg (phC a b c n)) (memP M) (memP (M.load aP)) (fun b => b) := by
  obtain ⟨d1, d2, d3, d4⟩ := h.dec
  have q := now_run (getW M.ms aP) a b c n M (M.load aP) (mapO M.ms)
  have := g_step (M := M) (M2 := M.load aP) (v := .agg (phC a b c n)) q.1 (fun s0 h7 h8 => pload_at h7 h8 aP) ⟨(by
    have := asp_call (getW M.ms aP) (hl aP)
    unfold asp at this
    rw [d1, d2, d3, d4] at this
    exact fun s hs => this s hs), trivial⟩ q.2 rfl
  simpa [gdW, kl] using this
def gdS (to : Nat) (lk : Int) : GD := ⟨11, [.int .u8 (Int.ofNat to), .int .i64 lk], [], [(11, .cells false (SS.X ⟨1, 4, 0, -1, 0, 0, 0, 0, newB 0 lk⟩ to lk (.func (.func 29) [.ptr 11 0] []) 0 0 0 0 .nilPtr))], [(11, 20)], [20], .ptr 20 0, [], none, []⟩
theorem newS (to : Nat) (lk : Int) (M : PM) (O : AObj) : GdOk (gdS to lk) M M O O := ⟨by kernel_rfl, by kernel_rfl⟩
def kS (b : Nat) : Nat := if b = 16 then 16 + 1 else if b = 15 then 15 + 1 else if b = 13 then 13 + 1 else kl [(11, 20)] b
theorem news_step (to : Nat) (lk : Int) (M : PM) : ∃ C', XAt ⟨1, 4, 0, -1, 0, 0, 0, 0, newB 0 lk⟩ to lk C' ∧ StepF Tryz.prog GF 20 11 [.int .u8 (Int.ofNat to), .int .i64 lk] (.ptr 11 0) (memP M) (memP M ++ C') kS := by
  have q := newS to lk M (mapO M.ms)
  have h := g_step (M := M) (M2 := M) (v := .ptr 11 0) q.1 (fun s0 h7 h8 => trivial) trivial q.2 rfl
  have h : StepF Tryz.prog GF 20 11 [.int .u8 (Int.ofNat to), .int .i64 lk] (.ptr 11 0) (memP M ++ []) (memP M ++ [(11, .cells false (SS.X ⟨1, 4, 0, -1, 0, 0, 0, 0, newB 0 lk⟩ to lk (.func (.func 29) [.ptr 11 0] []) 0 0 0 0 .nilPtr))]) (kl [(11, 20)]) := h
  have gzn : ∀ n, 3 ≤ n → ∀ x ∈ GF, x.1 ≠ n := fun n hn x hx => by have := (gz x hx).1; omega
  have nm : ∀ n, ∀ x ∈ memP M, n ≠ 8 → x.2.names (fun c => !Nat.beq c n) = true := fun n x hx hn => by
    simp only [memP, List.mem_cons, List.not_mem_nil, or_false] at hx
    rcases hx with rfl | rfl
    · show ((!Nat.beq 8 n) && true) = true
      rw [show Nat.beq 8 n = false from by cases e : Nat.beq 8 n <;> first | rfl | exact absurd (Nat.eq_of_beq_eq_true e).symm hn]
      rfl
    · exact mapO_names _ _
  have h1 := h.ghost 13 (.cells false []) rfl (by show 13 ∉ ([7, 8, 11] : List Nat); decide) (by rw [glN]; decide) (gzn 13 (by decide)) (fun x hx => by
    rcases List.mem_append.1 hx with hx | hx
    · exact nm 13 x hx (by decide)
    · simp only [List.mem_cons, List.not_mem_nil, or_false] at hx
      subst hx
      rfl) rfl
  have h2 := h1.ghost 15 (.cells false []) rfl (by show 15 ∉ ([7, 8, 11, 13] : List Nat); decide) (by rw [glN]; decide) (gzn 15 (by decide)) (fun x hx => by
    rcases List.mem_append.1 hx with hx | hx
    · rcases List.mem_append.1 hx with hx | hx
      · exact nm 15 x hx (by decide)
      · simp only [List.mem_cons, List.not_mem_nil, or_false] at hx
        subst hx
        rfl
    · simp only [List.mem_cons, List.not_mem_nil, or_false] at hx
      subst hx
      rfl) rfl
  have h3 := h2.ghost 16 (.cells false []) rfl (by show 16 ∉ ([7, 8, 11, 13, 15] : List Nat); decide) (by rw [glN]; decide) (gzn 16 (by decide)) (fun x hx => by
    rcases List.mem_append.1 hx with hx | hx
    · rcases List.mem_append.1 hx with hx | hx
      · rcases List.mem_append.1 hx with hx | hx
        · exact nm 16 x hx (by decide)
        · simp only [List.mem_cons, List.not_mem_nil, or_false] at hx
          subst hx
          rfl
      · simp only [List.mem_cons, List.not_mem_nil, or_false] at hx
        subst hx
        rfl
    · simp only [List.mem_cons, List.not_mem_nil, or_false] at hx
      subst hx
      rfl) rfl
  have lE : Lx (.cells false []) := ⟨rfl, rfl⟩
  exact ⟨_, ⟨_, 0, 0, 0, 0, _, _, _, _, rfl, lE, lE, lE, ⟨rfl, .inl ⟨rfl, rfl⟩, fun h => absurd (show (3 : Nat) ≤ 1 from h) (by decide)⟩⟩, h3⟩
end Go.Proofs.YtcnfblibfndepaaGreatDoor.ctlsCover
