/- A step of a Fallback, of the program and of the document, is the plain one. Conditions: those that each theorem names, and no others. -/
import Derived.Test.YtchekpapgfojhaaGreatDoorBack13
import Derived.Test.YtchekpapgfojhaaGreatDoorBack12
namespace Go.Proofs.YtchekpapgfojhaaGreatDoor.ctlsFallback
open Go Go.Mini
/-! ### the contracts of the Switch and of Pair.Store in a state whose next name is 21 -/
theorem NX_lt {σ : SS} {to n15 n16 : Nat} {nxt : AV} {O : Nat → AObj} (h : NX σ to n15 n16 nxt O) (p : Nat → Bool) (h11 : p 11 = true) (h15 : p n15 = true) (h16 : p n16 = true) : nxt.names p = true := by
  unfold NX at h
  split at h
  · rw [h]; rfl
  · rw [h]; show ((p 11 && true) && true) = true; rw [h11]; rfl
  · rw [h.1]; show (true && (p n15 && (p n16 && true))) = true; rw [h15, h16]; rfl
  · rw [h.1]; show (true && (p n15 && (p n16 && true))) = true; rw [h15, h16]; rfl
  · rw [h.1]; show (true && (p n15 && true)) = true; rw [h15]; rfl
  · rw [h]; show ((p 11 && true) && true) = true; rw [h11]; rfl
  · rw [h.1]; show (true && (p n15 && (p n16 && true))) = true; rw [h15, h16]; rfl
  · rw [h.1]; show (true && (p n15 && true)) = true; rw [h15]; rfl
  · rw [h]; show ((p 11 && true) && true) = true; rw [h11]; rfl
theorem WX_lt {σ : SS} {n13 : Nat} {bpx : AV} {O : Nat → AObj} (h : WX σ n13 bpx O) (p : Nat → Bool) (h13 : p n13 = true) : bpx.names p = true := by
  unfold WX at h
  split at h
  · rw [h.1]; exact h13
  · rcases h with ⟨e, _⟩ | ⟨_, e, _⟩ <;> rw [e]
    · rfl
    · exact h13
theorem X_lt {σ : SS} {to n13 n15 n16 : Nat} {lk : Int} {nxt : AV} {xa xb xc xn : Nat} {bpx : AV} {O : Nat → AObj} (h : XS σ to n13 n15 n16 nxt xa xb xc xn bpx O) (p : Nat → Bool) (h11 : p 11 = true) (h13 : p n13 = true) (h15 : p n15 = true) (h16 : p n16 = true) : namess p (σ.X to lk nxt xa xb xc xn bpx) = true := by
  show (nxt.names p && (true && (true && (true && (true && (true && (true && (true && (true && (true && (bpx.names p && true))))))))))) = true
  rw [NX_lt h.nx p h11 h15 h16, WX_lt h.wx p h13]
  rfl
theorem XS.ren {σ : SS} {to n13 n15 n16 : Nat} {nxt : AV} {xa xb xc xn : Nat} {bpx : AV} {O O' : Nat → AObj} (h : XS σ to n13 n15 n16 nxt xa xb xc xn bpx O) {ρ : Nat → Nat} (r11 : ρ 11 = 11) (e13 : O' (ρ n13) = O n13) (e15 : O' (ρ n15) = O n15) (e16 : O' (ρ n16) = O n16) : XS σ to (ρ n13) (ρ n15) (ρ n16) (nxt.ren ρ) xa xb xc xn (bpx.ren ρ) O' := by
  obtain ⟨hn, hw, hp⟩ := h
  refine ⟨?_, ?_, hp⟩
  · obtain ⟨ln, en, w, wt, a, b, c, n, br⟩ := σ
    rcases ln with _ | _ | _ | _ | _ | _ | _ | _ | ln
    · have hn : nxt = _ := hn
      rw [hn]; rfl
    · have hn : nxt = _ := hn
      rw [hn]; show AV.func _ [.ptr (ρ 11) 0] [] = _; rw [r11]
    · obtain ⟨h1, h2, h3⟩ := hn
      exact ⟨by rw [h1]; rfl, by rw [e15]; exact h2, by rw [e16]; exact h3⟩
    · obtain ⟨h1, h2, h3⟩ := hn
      exact ⟨by rw [h1]; rfl, by rw [e15]; exact h2, by rw [e16]; exact h3⟩
    · obtain ⟨h1, h2⟩ := hn
      exact ⟨by rw [h1]; rfl, by rw [e15]; exact h2⟩
    · have hn : nxt = _ := hn
      rw [hn]; show AV.func _ [.ptr (ρ 11) 0] [] = _; rw [r11]
    · obtain ⟨h1, h2, h3⟩ := hn
      exact ⟨by rw [h1]; rfl, by rw [e15]; exact h2, by rw [e16]; exact h3⟩
    · obtain ⟨h1, h2⟩ := hn
      exact ⟨by rw [h1]; rfl, by rw [e15]; exact h2⟩
    · have hn : nxt = _ := hn
      rw [hn]; show AV.func _ [.ptr (ρ 11) 0] [] = _; rw [r11]
  · unfold WX at hw ⊢
    split at hw
    · rename_i hl
      rw [if_pos hl]
      exact ⟨by rw [hw.1]; rfl, by rw [e13]; exact hw.2.1, hw.2.2⟩
    · rename_i hl
      rw [if_neg hl]
      rcases hw with ⟨h1, h2⟩ | ⟨h0, h1, b0, h2, h3⟩
      · exact .inl ⟨by rw [h1]; rfl, h2⟩
      · exact .inr ⟨h0, by rw [h1]; rfl, b0, by rw [e13]; exact h2, h3⟩
theorem O6_13 (a b c d e f : AObj) : O6 a b c d e f 13 = a := rfl
theorem O6_15 (a b c d e f : AObj) : O6 a b c d e f 15 = b := rfl
theorem O6_16 (a b c d e f : AObj) : O6 a b c d e f 16 = c := rfl
theorem XS.canon {σ : SS} {to n13 n15 n16 : Nat} {nxt : AV} {xa xb xc xn : Nat} {bpx : AV} {O : Nat → AObj} (h : XS σ to n13 n15 n16 nxt xa xb xc xn bpx O) :
    ∃ nxt0 bpx0, XS σ to 13 15 16 nxt0 xa xb xc xn bpx0 (O6 (O n13) (O n15) (O n16) .dead .dead .dead) ∧ ∀ π : Nat → Nat, π 11 = 11 → π 13 = n13 → π 15 = n15 → π 16 = n16 → nxt0.ren π = nxt ∧ bpx0.ren π = bpx := by
  obtain ⟨hn, hw, hp⟩ := h
  have h1 : ∃ nxt0, NX σ to 15 16 nxt0 (O6 (O n13) (O n15) (O n16) .dead .dead .dead) ∧ ∀ π : Nat → Nat, π 11 = 11 → π 15 = n15 → π 16 = n16 → nxt0.ren π = nxt := by
    obtain ⟨ln, en, w, wt, a, b, c, n, br⟩ := σ
    unfold NX at hn ⊢
    simp only [O6_15, O6_16] at hn ⊢
    split at hn
    · exact ⟨_, rfl, fun π _ _ _ => by rw [hn]; rfl⟩
    · exact ⟨_, rfl, fun π e _ _ => by rw [hn]; show AV.func _ [.ptr (π 11) 0] [] = _; rw [e]⟩
    · exact ⟨_, ⟨rfl, hn.2⟩, fun π _ e f => by rw [hn.1]; show AV.func _ [] [.ptr (π 15) 0, .ptr (π 16) 0] = _; rw [e, f]⟩
    · exact ⟨_, ⟨rfl, hn.2⟩, fun π _ e f => by rw [hn.1]; show AV.func _ [] [.ptr (π 15) 0, .ptr (π 16) 0] = _; rw [e, f]⟩
    · exact ⟨_, ⟨rfl, hn.2⟩, fun π _ e f => by rw [hn.1]; show AV.func _ [] [.ptr (π 15) 0] = _; rw [e]⟩
    · exact ⟨_, rfl, fun π e _ _ => by rw [hn]; show AV.func _ [.ptr (π 11) 0] [] = _; rw [e]⟩
    · exact ⟨_, ⟨rfl, hn.2⟩, fun π _ e f => by rw [hn.1]; show AV.func _ [] [.ptr (π 15) 0, .ptr (π 16) 0] = _; rw [e, f]⟩
    · exact ⟨_, ⟨rfl, hn.2⟩, fun π _ e f => by rw [hn.1]; show AV.func _ [] [.ptr (π 15) 0] = _; rw [e]⟩
    · exact ⟨_, rfl, fun π e _ _ => by rw [hn]; show AV.func _ [.ptr (π 11) 0] [] = _; rw [e]⟩
  have h2 : ∃ bpx0, WX σ 13 bpx0 (O6 (O n13) (O n15) (O n16) .dead .dead .dead) ∧ ∀ π : Nat → Nat, π 13 = n13 → bpx0.ren π = bpx := by
    unfold WX at hw ⊢
    simp only [O6_13]
    split at hw
    · rename_i hl
      simp only [if_pos hl]
      exact ⟨_, ⟨rfl, hw.2⟩, fun π e => by rw [hw.1]; show AV.ptr (π 13) 0 = _; rw [e]⟩
    · rename_i hl
      simp only [if_neg hl]
      rcases hw with ⟨e1, e2⟩ | ⟨e0, e1, e2⟩
      · exact ⟨_, .inl ⟨rfl, e2⟩, fun π _ => by rw [e1]; rfl⟩
      · exact ⟨_, .inr ⟨e0, rfl, e2⟩, fun π e => by rw [e1]; show AV.ptr (π 13) 0 = _; rw [e]⟩
  obtain ⟨x0, a1, a2⟩ := h1
  obtain ⟨b0, c1, c2⟩ := h2
  exact ⟨x0, b0, ⟨a1, c1, hp⟩, fun π e1 e2 e3 e4 => ⟨a2 π e1 e3 e4, c2 π e2⟩⟩
theorem Y_all {σ : SS} {to : Nat} {lk : Int} {m : PM} {h : AH} {bp : AV} {o10 o14 : AObj} (hO : σ.Ok to lk) (hl : m.ms.length < 16776000) (k12 : AS.get ⟨h, 17⟩ 12 = some (.cells false (σ.Y to lk bp))) (k9 : AS.get ⟨h, 17⟩ 9 = some (.cells false (m.C (LV m.ms 10)))) (k10 : AS.get ⟨h, 17⟩ 10 = some o10) (hr : RO m.ms o10) (k14 : AS.get ⟨h, 17⟩ 14 = some o14) (hbp : Bp0 σ bp o14) (hmv : ∀ a, getW m.ms a < 18446744073709551616) :
    YC σ to lk m h (σ.step to lk m) := by
  obtain ⟨ln, en, w, wt, a, b, c, n, br⟩ := σ
  have h1 : 1 ≤ ln ∧ ln ≤ 8 := hO.ln
  have h2 : en = 4 := hO.en
  subst h2
  have hln : ln = 1 ∨ ln = 2 ∨ ln = 3 ∨ ln = 4 ∨ ln = 5 ∨ ln = 6 ∨ ln = 7 ∨ ln = 8 := by omega
  rcases hln with rfl | rfl | rfl | rfl | rfl | rfl | rfl | rfl
  · exact Y_1 hO hl k12 k9 k10 hr k14 hbp hmv
  · exact Y_2 hO hl k12 k9 k10 hr k14 hbp hmv
  · exact Y_3 hO hl k12 k9 k10 hr k14 hbp hmv
  · exact Y_4 hO hl k12 k9 k10 hr k14 hbp hmv
  · exact Y_5 hO hl k12 k9 k10 hr k14 hbp hmv
  · exact Y_6 hO hl k12 k9 k10 hr k14 hbp hmv
  · exact Y_7 hO hl k12 k9 k10 hr k14 hbp hmv
  · exact Y_8 hO hl k12 k9 k10 hr k14 hbp hmv
theorem X_all {σ : SS} {to xa xb xc xn : Nat} {lk : Int} {m : PM} {h : AH} {nxt bpx : AV} {o13 o15 o16 d1 d2 d3 : AObj} (hO : σ.Ok to lk) (k11 : AS.get ⟨h, 17⟩ 11 = some (.cells false (σ.X to lk nxt xa xb xc xn bpx))) (k7 : AS.get ⟨h, 17⟩ 7 = some (.cells false (m.C (.map 8)))) (k8 : AS.get ⟨h, 17⟩ 8 = some (mapO m.ms)) (k13 : AS.get ⟨h, 17⟩ 13 = some o13) (k15 : AS.get ⟨h, 17⟩ 15 = some o15) (k16 : AS.get ⟨h, 17⟩ 16 = some o16)
    (kG : ∀ x ∈ GF, ∃ ro, AS.get ⟨h, 17⟩ x.1 = some (.cells ro x.2)) (h13 : Lx o13) (h15 : Lx o15) (h16 : Lx o16) (hX : XS σ to 13 15 16 nxt xa xb xc xn bpx (O6 o13 o15 o16 d1 d2 d3)) (hmv : ∀ a, getW m.ms a < 18446744073709551616) :
    XC to lk h (σ.step to lk m) := by
  obtain ⟨ln, en, w, wt, a, b, c, n, br⟩ := σ
  have h1 : 1 ≤ ln ∧ ln ≤ 8 := hO.ln
  have h2 : en = 4 := hO.en
  subst h2
  have hln : ln = 1 ∨ ln = 2 ∨ ln = 3 ∨ ln = 4 ∨ ln = 5 ∨ ln = 6 ∨ ln = 7 ∨ ln = 8 := by omega
  rcases hln with rfl | rfl | rfl | rfl | rfl | rfl | rfl | rfl
  · exact X_1 hO k11 k7 k8 k13 k15 k16 kG h13 h15 h16 hX hmv
  · exact X_2 hO k11 k7 k8 k13 k15 k16 kG h13 h15 h16 hX hmv
  · exact X_3 hO k11 k7 k8 k13 k15 k16 kG h13 h15 h16 hX hmv
  · exact X_4 hO k11 k7 k8 k13 k15 k16 kG h13 h15 h16 hX hmv
  · exact X_5 hO k11 k7 k8 k13 k15 k16 kG h13 h15 h16 hX hmv
  · exact X_6 hO k11 k7 k8 k13 k15 k16 kG h13 h15 h16 hX hmv
  · exact X_7 hO k11 k7 k8 k13 k15 k16 kG h13 h15 h16 hX hmv
  · exact X_8 hO k11 k7 k8 k13 k15 k16 kG h13 h15 h16 hX hmv
def O21 (o13 o15 o16 p1 p2 p3 : AObj) (i : Nat) : AObj := if i = 13 then o13 else if i = 15 then o15 else if i = 16 then o16 else if i = 21 then p1 else if i = 22 then p2 else p3
def kA (x : Nat) : Nat := pR 17 [17, 18, 19] (fun b => b) 21 x
def kB (x : Nat) : Nat := pR 17 [17, 18] (fun b => b) 21 x
/-- A step of the program's Switch, as the law's state has it. -/
theorem X_up {σ : SS} {to xa xb xc xn : Nat} {lk : Int} {m : PM} {nxt bpx : AV} {o13 o15 o16 d1 d2 d3 : AObj} (hO : σ.Ok to lk) (h13 : Lx o13) (h15 : Lx o15) (h16 : Lx o16) (hX : XS σ to 13 15 16 nxt xa xb xc xn bpx (O6 o13 o15 o16 d1 d2 d3)) (hmv : ∀ a, getW m.ms a < 18446744073709551616) :
    ∃ nxt' xa' xb' xc' xn' bpx' k13 k15 k16 o13' o15' o16' p1 p2 p3, (k13 = 13 ∨ k13 = 21) ∧ (k15 = 15 ∨ k15 = 21 ∨ k15 = 22) ∧ (k16 = 16 ∨ k16 = 23) ∧ k13 ≠ k15 ∧ Lx o13' ∧ Lx o15' ∧ Lx o16' ∧ Lx p1 ∧ Lx p2 ∧ Lx p3 ∧ XS (σ.step to lk m).1 to k13 k15 k16 nxt' xa' xb' xc' xn' bpx' (O21 o13' o15' o16' p1 p2 p3) ∧
      ∀ s : AS, s.nx = 21 → s.get 11 = some (.cells false (σ.X to lk nxt xa xb xc xn bpx)) → s.get 7 = some (.cells false (m.C (.map 8))) → s.get 8 = some (mapO m.ms) → s.get 13 = some o13 → s.get 15 = some o15 → s.get 16 = some o16 → (∀ x ∈ GF, ∃ ro, s.get x.1 = some (.cells ro x.2)) →
        Sound Tryz.prog (.call 15 [.ptr 11 0, .ptr 7 0] s) ⟨.ret, [.bool (decide ((σ.step to lk m).1.ln = 0))], ((((((((s.set 11 (.cells false ((σ.step to lk m).1.X to lk nxt' xa' xb' xc' xn' bpx'))).set 7 (.cells false ((σ.step to lk m).2.C (.map 8)))).set 8 (mapO (σ.step to lk m).2.ms)).set 13 o13').set 15 o15').set 16 o16').push p1).push p2).push p3⟩ := by
  obtain ⟨nxt', xa', xb', xc', xn', bpx', n13, n15, n16, o13', o15', o16', p1, p2, p3, q13, q15, q16, hne, m13, m15, m16, mp1, mp2, mp3, hX', hS⟩ := X_all (h := (⟨[(11, .cells false (σ.X to lk nxt xa xb xc xn bpx)), (7, .cells false (m.C (.map 8))), (8, mapO m.ms), (13, o13), (15, o15), (16, o16)] ++ frz GF, 17, none, []⟩ : AH)) (m := m) hO rfl rfl rfl rfl rfl rfl (fun x hx => by
    simp only [GF, List.mem_cons, List.not_mem_nil, or_false] at hx
    rcases hx with rfl | rfl | rfl <;> exact ⟨true, rfl⟩) h13 h15 h16 hX hmv
  generalize σ.step to lk m = r at *
  have k13 : kA n13 = 13 ∧ n13 = 13 ∨ kA n13 = 21 ∧ n13 = 17 := by rcases q13 with rfl | rfl <;> simp [kA, pR]
  have k15 : kA n15 = 15 ∧ n15 = 15 ∨ kA n15 = 21 ∧ n15 = 17 ∨ kA n15 = 22 ∧ n15 = 18 := by rcases q15 with rfl | rfl | rfl <;> simp [kA, pR, List.idxOf_cons]
  have k16 : kA n16 = 16 ∧ n16 = 16 ∨ kA n16 = 23 ∧ n16 = 19 := by rcases q16 with rfl | rfl <;> simp [kA, pR, List.idxOf_cons]
  have pn : ∀ b, b = 11 ∨ b = 13 ∨ b = 15 ∨ b = 16 ∨ b = 17 ∨ b = 18 ∨ b = 19 → pN 17 [17, 18, 19] b = true := by
    intro b hb
    rcases hb with rfl | rfl | rfl | rfl | rfl | rfl | rfl <;> rfl
  have r11 : kA 11 = 11 := rfl
  have hXu := hX'.ren (O' := O21 o13' o15' o16' p1 p2 p3) (ρ := kA) r11
    (by rcases k13 with ⟨e, f⟩ | ⟨e, f⟩ <;> rw [e, f] <;> rfl) (by rcases k15 with ⟨e, f⟩ | ⟨e, f⟩ | ⟨e, f⟩ <;> rw [e, f] <;> rfl) (by rcases k16 with ⟨e, f⟩ | ⟨e, f⟩ <;> rw [e, f] <;> rfl)
  refine ⟨nxt'.ren kA, xa', xb', xc', xn', bpx'.ren kA, kA n13, kA n15, kA n16, o13', o15', o16', p1, p2, p3, by omega, by omega, by omega, by omega, m13, m15, m16, mp1, mp2, mp3, hXu, fun s hn k11 k7 k8 e13 e15 e16 kG => ?_⟩
  have := extN (bs0 := [(11, .cells false (σ.X to lk nxt xa xb xc xn bpx)), (7, .cells false (m.C (.map 8))), (8, mapO m.ms), (13, o13), (15, o15), (16, o16)]) (Fz := GF) (s := s) hS (by decide) [17, 18, 19] (fun x hx => by
      have hk := kG x hx
      simp only [GF, List.mem_cons, List.not_mem_nil, or_false] at hx
      rcases hx with rfl | rfl | rfl
      · exact ⟨show 0 < 17 by decide, show 0 ∉ [11, 7, 8, 13, 15, 16] by decide, rfl, hk⟩
      · exact ⟨show 1 < 17 by decide, show 1 ∉ [11, 7, 8, 13, 15, 16] by decide, rfl, hk⟩
      · exact ⟨show 2 < 17 by decide, show 2 ∉ [11, 7, 8, 13, 15, 16] by decide, rfl, hk⟩)
    ⟨⟨show 11 < 17 by decide, rfl, X_lt hX _ rfl rfl rfl rfl, rfl, k11, .inl rfl, X_lt (lk := lk) hX' _ rfl (pn _ (by omega)) (pn _ (by omega)) (pn _ (by omega))⟩, ⟨show 7 < 17 by decide, rfl, rfl, rfl, k7, .inl rfl, rfl⟩, ⟨show 8 < 17 by decide, rfl, mapO_names _ _, rfl, k8, .inl rfl, mapO_names _ _⟩,
      ⟨show 13 < 17 by decide, h13.1, h13.nm rfl, rfl, e13, .inl m13.1, m13.nm rfl⟩, ⟨show 15 < 17 by decide, h15.1, h15.nm rfl, rfl, e15, .inl m15.1, m15.nm rfl⟩, ⟨show 16 < 17 by decide, h16.1, h16.nm rfl, rfl, e16, .inl m16.1, m16.nm rfl⟩, trivial⟩
    (show [11, 7, 8, 13, 15, 16].Nodup by decide) (show [17, 18, 19].Nodup by decide) (fun b hb => by
      simp only [List.mem_cons, List.not_mem_nil, or_false] at hb
      rcases hb with rfl | rfl | rfl
      · exact ⟨by decide, mp1.1, mp1.nm rfl⟩
      · exact ⟨by decide, mp2.1, mp2.nm rfl⟩
      · exact ⟨by decide, mp3.1, mp3.nm rfl⟩) rfl rfl
  rw [hn] at this
  have this : Sound Tryz.prog (.call 15 [.ptr 11 0, .ptr 7 0] s) ⟨.ret, [.bool (decide (r.1.ln = 0))], ((((((((s.set 11 (.cells false (r.1.X to lk (nxt'.ren kA) xa' xb' xc' xn' (bpx'.ren kA)))).set 7 (.cells false (r.2.C (.map 8)))).set 8 ((mapO r.2.ms).ren kA)).set 13 (o13'.ren kA)).set 15 (o15'.ren kA)).set 16 (o16'.ren kA)).push (p1.ren kA)).push (p2.ren kA)).push (p3.ren kA)⟩ := this
  rw [mapO_ren, m13.ren r11, m15.ren r11, m16.ren r11, mp1.ren r11, mp2.ren r11, mp3.ren r11] at this
  exact this
theorem Bp.ren {σ : SS} {bp : AV} {o14 pC : AObj} (h : Bp σ 18 bp o14 pC) : Bp σ 22 (bp.ren kB) o14 pC := by
  obtain ⟨h1, h2, h3⟩ := h
  refine ⟨h1, h2, ?_⟩
  rcases h3 with ⟨e, h⟩ | ⟨e, h⟩ | ⟨e, h⟩ <;> rw [e]
  · exact .inl ⟨rfl, h⟩
  · exact .inr (.inl ⟨rfl, h⟩)
  · exact .inr (.inr ⟨rfl, h⟩)
/-- Likewise, of the document's. -/
theorem Y_up {σ : SS} {to : Nat} {lk : Int} {m : PM} {bp : AV} {o10 o14 : AObj} (hO : σ.Ok to lk) (hl : m.ms.length < 16776000) (hr : RO m.ms o10) (hbp : Bp0 σ bp o14) (hmv : ∀ a, getW m.ms a < 18446744073709551616) :
    ∃ lv oL pA bp' o14' pC, Row2 (σ.step to lk m).2.ms 10 21 lv oL pA ∧ Bp (σ.step to lk m).1 22 bp' o14' pC ∧ ∀ s : AS, s.nx = 21 → s.get 12 = some (.cells false (σ.Y to lk bp)) → s.get 9 = some (.cells false (m.C (LV m.ms 10))) → s.get 10 = some o10 → s.get 14 = some o14 →
      Sound Tryz.prog (.call 34 [.ptr 12 0, .ptr 9 0] s) ⟨.ret, [undefA], (((((s.set 12 (.cells false ((σ.step to lk m).1.Y to lk bp'))).set 9 (.cells false ((σ.step to lk m).2.C lv))).set 10 oL).set 14 o14').push pA).push pC⟩ := by
  obtain ⟨lv, oL, pA, bp', o14', pC, h2, hb, hS⟩ := Y_all (h := (⟨[(12, .cells false (σ.Y to lk bp)), (9, .cells false (m.C (LV m.ms 10))), (10, o10), (14, o14)], 4, none, []⟩ : AH)) (m := m) hO hl rfl rfl rfl hr rfl hbp hmv
  generalize σ.step to lk m = r at *
  have hbn : ∀ p : Nat → Bool, p 14 = true → p 18 = true → bp'.names p = true := fun p h14 h18 => by
    rcases hb.2.2 with ⟨e, _⟩ | ⟨e, _⟩ | ⟨e, _⟩ <;> rw [e]
    · rfl
    · exact h14
    · exact h18
  refine ⟨lv.ren kB, oL, pA, bp'.ren kB, o14', pC, h2.ren kB, hb.ren, fun s hn k12 k9 k10 k14 => ?_⟩
  have := extN (bs0 := [(12, .cells false (σ.Y to lk bp)), (9, .cells false (m.C (LV m.ms 10))), (10, o10), (14, o14)]) (Fz := []) (s := s) hS (by decide) [17, 18] (fun x hx => by cases hx)
    ⟨⟨show 12 < 17 by decide, rfl, by show (bp.names _ && true) = true; rw [hbp.names]; rfl, rfl, k12, .inl rfl, by show (bp'.names _ && true) = true; rw [hbn _ rfl rfl]; rfl⟩, ⟨show 9 < 17 by decide, rfl, C_names _ _ _ (LV_names _ _ _ rfl), rfl, k9, .inl rfl, C_names _ _ _ (h2.names _ rfl rfl)⟩,
      ⟨show 10 < 17 by decide, hr.free.1, hr.free.nm _, rfl, k10, h2.o1.1, h2.o1.2 _⟩, ⟨show 14 < 17 by decide, hbp.1.1, hbp.1.nm _, rfl, k14, .inl hb.1.1, hb.1.nm _⟩, trivial⟩
    (show [12, 9, 10, 14].Nodup by decide) (show [17, 18].Nodup by decide) (fun b hb' => by
      simp only [List.mem_cons, List.not_mem_nil, or_false] at hb'
      rcases hb' with rfl | rfl
      · exact ⟨by decide, h2.o2.1, h2.o2.nm _⟩
      · exact ⟨by decide, hb.2.1.1, hb.2.1.nm _⟩) rfl rfl
  rw [hn] at this
  have this : Sound Tryz.prog (.call 34 [.ptr 12 0, .ptr 9 0] s) ⟨.ret, [undefA], (((((s.set 12 (.cells false (r.1.Y to lk (bp'.ren kB)))).set 9 (.cells false (r.2.C (lv.ren kB)))).set 10 (oL.ren kB)).set 14 (o14'.ren kB)).push (pA.ren kB)).push (pC.ren kB)⟩ := this
  rw [no_ren h2.o1.2, hb.1.ren, h2.o2.ren, hb.2.1.ren] at this
  exact this
/-- Likewise, Pair.Store. -/
theorem S_up {m : PM} {o10 : AObj} (hr : RO m.ms o10) (hl : m.ms.length < 16776000) (x : A3) (h0 : 0 ≤ x.1) (v : Nat) :
    ∃ lv oL pA, Row2 (m.store x v).ms 10 21 lv oL pA ∧ ∀ s : AS, s.nx = 21 → s.get 7 = some (.cells false (m.C (.map 8))) → s.get 8 = some (mapO m.ms) → s.get 9 = some (.cells false (m.C (LV m.ms 10))) → s.get 10 = some o10 →
      Sound Tryz.prog (.call 8 [.agg [.ptr 7 0, .ptr 9 0], .agg (wc (x, v))] s) ⟨.ret, [undefA], ((((s.set 7 (.cells false ((m.store x v).C (.map 8)))).set 8 (mapO (m.store x v).ms)).set 9 (.cells false ((m.store x v).C lv))).set 10 oL).push pA⟩ := by
  obtain ⟨lv, oL, pA, h2, hS⟩ := S_at (h := (⟨[(7, .cells false (m.C (.map 8))), (8, mapO m.ms), (9, .cells false (m.C (LV m.ms 10))), (10, o10)], 4, none, []⟩ : AH)) (m := m) rfl rfl rfl rfl hr hl x h0 v
  generalize m.store x v = m' at *
  refine ⟨lv.ren kB, oL, pA, h2.ren kB, fun s hn k7 k8 k9 k10 => ?_⟩
  have := extN (bs0 := [(7, .cells false (m.C (.map 8))), (8, mapO m.ms), (9, .cells false (m.C (LV m.ms 10))), (10, o10)]) (Fz := []) (s := s) hS (by decide) [17] (fun x hx => by cases hx)
    ⟨⟨show 7 < 17 by decide, rfl, rfl, rfl, k7, .inl rfl, rfl⟩, ⟨show 8 < 17 by decide, rfl, mapO_names _ _, rfl, k8, .inl rfl, mapO_names _ _⟩, ⟨show 9 < 17 by decide, rfl, C_names _ _ _ (LV_names _ _ _ rfl), rfl, k9, .inl rfl, C_names _ _ _ (h2.names _ rfl rfl)⟩,
      ⟨show 10 < 17 by decide, hr.free.1, hr.free.nm _, rfl, k10, h2.o1.1, h2.o1.2 _⟩, trivial⟩
    (show [7, 8, 9, 10].Nodup by decide) (show [17].Nodup by decide) (fun b hb' => by
      rcases List.mem_singleton.1 hb' with rfl
      exact ⟨by decide, h2.o2.1, h2.o2.nm _⟩) rfl rfl
  rw [hn] at this
  have elv : lv.ren (pR 17 [17] (fun b => b) 21) = lv.ren kB := by
    rcases h2 with ⟨rfl, _⟩ | ⟨_, rfl, _⟩ <;> rw [LV_ren, LV_ren] <;> rfl
  have this : Sound Tryz.prog (.call 8 [.agg [.ptr 7 0, .ptr 9 0], .agg (wc (x, v))] s) ⟨.ret, [undefA], ((((s.set 7 (.cells false (m'.C (.map 8)))).set 8 ((mapO m'.ms).ren (pR 17 [17] (fun b => b) 21))).set 9 (.cells false (m'.C (lv.ren (pR 17 [17] (fun b => b) 21))))).set 10 (oL.ren (pR 17 [17] (fun b => b) 21))).push (pA.ren (pR 17 [17] (fun b => b) 21))⟩ := this
  rw [mapO_ren, elv, no_ren h2.o1.2, h2.o2.ren] at this
  exact this
/-! ### a Fallback's step, of the program, is the plain one -/
def fnF : Nat → AV
  | 0 => .nilFunc
  | 1 => .func (.func 26) [.ptr 17 0] []
  | 2 => .func (.func 46) [.ptr 17 0] []
  | _ => .func (.func 76) [.ptr 17 0] []
def FS.Fx (φ : FS) : List AV := [fnF φ.ln, .int .i64 (Int.ofNat (if φ.ln = 0 then φ.en else 0)), .bool true, .ptr 19 0, .ptr 11 0]
def FS.Fy (φ : FS) : List AV := [.int .i64 (Int.ofNat φ.ln), .int .i64 (Int.ofNat φ.en), .ptr 12 0, .ptr 20 0]
def FS.Gx (φ : FS) (th : Int) : List AV := [.int .i64 (Int.ofNat φ.fl), .int .i64 th, .int .u64 (Int.ofNat φ.fe)]
def FS.Gy (φ : FS) (th : Int) : List AV := [.int .i64 th, .int .i64 (Int.ofNat φ.fl), .int .u64 (Int.ofNat φ.fe)]
theorem FS.Fx_names (φ : FS) (p : Nat → Bool) (h11 : p 11 = true) (h17 : p 17 = true) (h19 : p 19 = true) : namess p φ.Fx = true := by
  have e : (fnF φ.ln).names p = true := by
    unfold fnF
    split
    · rfl
    · show ((p 17 && true) && true) = true; rw [h17]; rfl
    · show ((p 17 && true) && true) = true; rw [h17]; rfl
    · show ((p 17 && true) && true) = true; rw [h17]; rfl
  show ((fnF φ.ln).names p && (true && (true && (p 19 && (p 11 && true))))) = true
  rw [e, h11, h19]
  rfl
theorem FS.Gx_names (φ : FS) (th : Int) (p : Nat → Bool) : namess p (φ.Gx th) = true := rfl
theorem FS.Fy_names (φ : FS) (p : Nat → Bool) (h12 : p 12 = true) (h20 : p 20 = true) : namess p φ.Fy = true := by
  show (true && (true && (p 12 && (p 20 && true)))) = true
  rw [h12, h20]
  rfl
theorem p21_id (b : Nat) (h : pN 21 [21, 22, 23] b = true) (new : List Nat) (hn : new = [21, 22, 23] ∨ b < 21) : pR 21 new (fun b => b) 21 b = b := by
  unfold pN at h
  unfold pR
  split
  · rfl
  · rename_i h1
    rcases hn with rfl | hn
    · rcases Bool.or_eq_true_iff.1 h with e | e
      · exact absurd (by simpa using e) h1
      · have e : b = 21 ∨ b = 22 ∨ b = 23 := by simpa using e
        rcases e with rfl | rfl | rfl <;> rfl
    · omega
section
variable {m m' : PM} {fx0 gx0 x0 fc gc xc : List AV} {o13 o15 o16 o13' o15' o16' : AObj} {r : Bool} {e : AExit} {s1 : AS}
theorem mkFX (new : List (Nat × AObj)) (p : Nat → Bool) (hp1 : ∀ b, p b = true → pN 21 (new.map (·.1)) b = true) (hp2 : ∀ b, p b = true → pR 21 (new.map (·.1)) (fun b => b) 21 b = b) (p11 : p 11 = true)
    (hx : Sound Tryz.prog (.call 10 [.ptr 17 0, .ptr 7 0] (canF [(17, .cells false fx0), (19, .cells false gx0), (11, .cells false x0), (7, .cells false (m.C (.map 8))), (8, mapO m.ms), (13, o13), (15, o15), (16, o16)] GF 21 21)) ⟨e, [.bool r], s1⟩)
    (j17 : s1.get 17 = some (.cells false fc)) (j19 : s1.get 19 = some (.cells false gc)) (j11 : s1.get 11 = some (.cells false xc)) (j7 : s1.get 7 = some (.cells false (m'.C (.map 8)))) (j8 : s1.get 8 = some (mapO m'.ms)) (j13 : s1.get 13 = some o13') (j15 : s1.get 15 = some o15') (j16 : s1.get 16 = some o16')
    (hnew : ∀ x ∈ new, 21 ≤ x.1 ∧ s1.get x.1 = some x.2 ∧ Lx x.2) (hnd : (new.map (·.1)).Nodup)
    (nf0 : namess (fun b => Nat.blt b 21) fx0 = true) (ng0 : namess (fun b => Nat.blt b 21) gx0 = true) (nx0 : namess (fun b => Nat.blt b 21) x0 = true) (nf : namess p fc = true) (ng : namess p gc = true) (nx : namess p xc = true)
    (h13 : Lx o13) (h15 : Lx o15) (h16 : Lx o16) (l13 : Lx o13') (l15 : Lx o15') (l16 : Lx o16') (s : AS) (hn : s.nx = 21)
    (k17 : s.get 17 = some (.cells false fx0)) (k19 : s.get 19 = some (.cells false gx0)) (k11 : s.get 11 = some (.cells false x0)) (k7 : s.get 7 = some (.cells false (m.C (.map 8)))) (k8 : s.get 8 = some (mapO m.ms)) (k13 : s.get 13 = some o13) (k15 : s.get 15 = some o15) (k16 : s.get 16 = some o16) (kG : ∀ x ∈ GF, ∃ ro, s.get x.1 = some (.cells ro x.2)) :
    Sound Tryz.prog (.call 10 [.ptr 17 0, .ptr 7 0] s) ⟨.ret, [.bool r], pushL ((((((((s.set 17 (.cells false fc)).set 19 (.cells false gc)).set 11 (.cells false xc)).set 7 (.cells false (m'.C (.map 8)))).set 8 (mapO m'.ms)).set 13 o13').set 15 o15').set 16 o16') (new.map (·.2))⟩ := by
  have ob : ∀ {b : Nat} {o : AObj}, s1.get b = some o → objAt s1 b = o := fun h => by simp [objAt, h]
  have q11 : pN 21 (new.map (·.1)) 11 = true := hp1 11 p11
  have r11 : pR 21 (new.map (·.1)) (fun b => b) 21 11 = 11 := hp2 11 p11
  have rc : ∀ {l : List AV}, namess p l = true → rens (pR 21 (new.map (·.1)) (fun b => b) 21) l = l := fun h => by rw [rens_congr (p := p) (π' := fun b => b) hp2 h, rens_id]
  have := extN hx (by decide) (new.map (·.1)) (s := s) (fun x hx => by
      have hg := kG x hx
      simp only [GF, List.mem_cons, List.not_mem_nil, or_false] at hx
      rcases hx with rfl | rfl | rfl
      · exact ⟨show 0 < 21 by decide, show 0 ∉ [17, 19, 11, 7, 8, 13, 15, 16] by decide, rfl, hg⟩
      · exact ⟨show 1 < 21 by decide, show 1 ∉ [17, 19, 11, 7, 8, 13, 15, 16] by decide, rfl, hg⟩
      · exact ⟨show 2 < 21 by decide, show 2 ∉ [17, 19, 11, 7, 8, 13, 15, 16] by decide, rfl, hg⟩)
    ⟨⟨show 17 < 21 by decide, rfl, nf0, rfl, k17, by rw [ob j17]; exact .inl rfl, by rw [ob j17]; exact namess_sub hp1 nf⟩, ⟨show 19 < 21 by decide, rfl, ng0, rfl, k19, by rw [ob j19]; exact .inl rfl, by rw [ob j19]; exact namess_sub hp1 ng⟩, ⟨show 11 < 21 by decide, rfl, nx0, rfl, k11, by rw [ob j11]; exact .inl rfl, by rw [ob j11]; exact namess_sub hp1 nx⟩,
      ⟨show 7 < 21 by decide, rfl, rfl, rfl, k7, by rw [ob j7]; exact .inl rfl, by rw [ob j7]; rfl⟩, ⟨show 8 < 21 by decide, rfl, mapO_names _ _, rfl, k8, by rw [ob j8]; exact .inl rfl, by rw [ob j8]; exact mapO_names _ _⟩,
      ⟨show 13 < 21 by decide, h13.1, h13.nm rfl, rfl, k13, by rw [ob j13]; exact .inl l13.1, by rw [ob j13]; exact l13.nm q11⟩, ⟨show 15 < 21 by decide, h15.1, h15.nm rfl, rfl, k15, by rw [ob j15]; exact .inl l15.1, by rw [ob j15]; exact l15.nm q11⟩, ⟨show 16 < 21 by decide, h16.1, h16.nm rfl, rfl, k16, by rw [ob j16]; exact .inl l16.1, by rw [ob j16]; exact l16.nm q11⟩, trivial⟩
    (show [17, 19, 11, 7, 8, 13, 15, 16].Nodup by decide) hnd (fun b hb => by
      obtain ⟨x, hx, rfl⟩ := List.mem_map.1 hb
      obtain ⟨g1, g2, g3⟩ := hnew x hx
      rw [ob g2]
      exact ⟨g1, g3.1, g3.nm q11⟩) rfl rfl
  rw [hn] at this
  have en : ((new.map (·.1)).map fun b => (objAt s1 b).ren (pR 21 (new.map (·.1)) (fun b => b) 21)) = new.map (·.2) := by
    rw [List.map_map]
    refine List.map_congr_left fun x hx => ?_
    obtain ⟨g1, g2, g3⟩ := hnew x hx
    show (objAt s1 x.1).ren _ = _
    rw [ob g2, g3.ren r11]
  rw [en] at this
  simp only [List.map_cons, List.map_nil, setL, ob j17, ob j19, ob j11, ob j7, ob j8, ob j13, ob j15, ob j16, mapO_ren, l13.ren r11, l15.ren r11, l16.ren r11] at this
  have e17 : (AObj.cells false fc).ren (pR 21 (new.map (·.1)) (fun b => b) 21) = .cells false fc := congrArg (AObj.cells false) (rc nf)
  have e19 : (AObj.cells false gc).ren (pR 21 (new.map (·.1)) (fun b => b) 21) = .cells false gc := congrArg (AObj.cells false) (rc ng)
  have e11 : (AObj.cells false xc).ren (pR 21 (new.map (·.1)) (fun b => b) 21) = .cells false xc := congrArg (AObj.cells false) (rc nx)
  have e7 : (AObj.cells false (m'.C (.map 8))).ren (pR 21 (new.map (·.1)) (fun b => b) 21) = .cells false (m'.C (.map 8)) := rfl
  rw [e17, e19, e11, e7] at this
  exact this
end
def lo21 : Nat → Bool := fun b => Nat.blt b 21
theorem lo1 (new : List Nat) (b : Nat) (h : lo21 b = true) : pN 21 new b = true := by unfold pN; rw [show Nat.blt b 21 = true from h]; rfl
theorem lo2 (new : List Nat) (b : Nat) (h : lo21 b = true) : pR 21 new (fun b => b) 21 b = b := if_pos (by simpa [lo21] using h)
theorem nxeq (e : Nat) : some (AV.int IntKind.u64 (Int.ofNat ((e + 1) % ((2 : Int) ^ IntKind.u64.bits).natAbs))) = some (AV.int .u64 (Int.ofNat (nxe e))) := by rw [nat64]; rfl
theorem goesF_cases (v : Nat) : (goesF v = true ∧ cz (v % 8) = 0 ∧ v / 8 % 8 = 1) ∨ (goesF v = false ∧ cz (v % 8) ≠ 0) ∨ (goesF v = false ∧ cz (v % 8) = 0 ∧ v / 8 % 8 ≠ 1) := by
  unfold goesF
  by_cases h1 : cz (v % 8) = 0
  · by_cases h2 : v / 8 % 8 = 1
    · exact .inl ⟨by simp [h1, h2], h1, h2⟩
    · exact .inr (.inr ⟨by simp [h1, h2], h1, h2⟩)
  · exact .inr (.inl ⟨by simp [h1], h1⟩)
theorem X_same {o13 o15 o16 d1 d2 d3 : AObj} {σ : SS} {nxt : AV} {xa xb xc xn : Nat} {bpx : AV} (hX : XS σ 2 13 15 16 nxt xa xb xc xn bpx (O6 o13 o15 o16 d1 d2 d3)) (p1 p2 p3 : AObj) : XS σ 2 13 15 16 nxt xa xb xc xn bpx (O21 o13 o15 o16 p1 p2 p3) := by
  have e : ∀ a : AV, a.ren (fun b => b) = a := ren_id
  have := hX.ren (ρ := fun b => b) (O' := O21 o13 o15 o16 p1 p2 p3) rfl rfl rfl rfl
  rw [e, e] at this
  exact this
/-- What a step of the program's Fallback comes to. -/
def FXC (φ : FS) (th lk : Int) (m : PM) (r : FS × PM) (x0 : List AV) (o13 o15 o16 : AObj) : Prop :=
  ∃ nxt xa xb xc xn bpx k13 k15 k16 o13' o15' o16' p1 p2 p3, (k13 = 13 ∨ k13 = 21) ∧ (k15 = 15 ∨ k15 = 21 ∨ k15 = 22) ∧ (k16 = 16 ∨ k16 = 23) ∧ k13 ≠ k15 ∧ Lx o13' ∧ Lx o15' ∧ Lx o16' ∧ Lx p1 ∧ Lx p2 ∧ Lx p3 ∧ XS r.1.σ 2 k13 k15 k16 nxt xa xb xc xn bpx (O21 o13' o15' o16' p1 p2 p3) ∧
    ∀ s : AS, s.nx = 21 → s.get 17 = some (.cells false φ.Fx) → s.get 19 = some (.cells false (φ.Gx th)) → s.get 11 = some (.cells false x0) → s.get 7 = some (.cells false (m.C (.map 8))) → s.get 8 = some (mapO m.ms) → s.get 13 = some o13 → s.get 15 = some o15 → s.get 16 = some o16 → (∀ x ∈ GF, ∃ ro, s.get x.1 = some (.cells ro x.2)) →
      Sound Tryz.prog (.call 10 [.ptr 17 0, .ptr 7 0] s) ⟨.ret, [.bool (decide (r.1.ln = 0))], ((((((((((s.set 17 (.cells false r.1.Fx)).set 19 (.cells false (r.1.Gx th))).set 11 (.cells false (r.1.σ.X 2 lk nxt xa xb xc xn bpx))).set 7 (.cells false (r.2.C (.map 8)))).set 8 (mapO r.2.ms)).set 13 o13').set 15 o15').set 16 o16').push p1).push p2).push p3⟩
def oE : AObj := .cells false []
theorem lxE : Lx oE := ⟨rfl, rfl⟩
section
variable {φ : FS} {th lk : Int} {m : PM} {nxt : AV} {xa xb xc xn : Nat} {bpx : AV} {o13 o15 o16 d1 d2 d3 : AObj} (h13 : Lx o13) (h15 : Lx o15) (h16 : Lx o16) (hX : XS φ.σ 2 13 15 16 nxt xa xb xc xn bpx (O6 o13 o15 o16 d1 d2 d3))
include h13 h15 h16 hX
/-- A step that leaves the inner Switch as it is. -/
theorem FX_mk {φ' : FS} {m' : PM} {r : Bool} {e : AExit} {s1 : AS} (hσ : φ'.σ = φ.σ) (hr : r = decide (φ'.ln = 0)) (new : List (Nat × AObj)) (hl : new = [] ∨ ∃ o, new = [(22, o)])
    (hx : Sound Tryz.prog (.call 10 [.ptr 17 0, .ptr 7 0] (canF [(17, .cells false φ.Fx), (19, .cells false (φ.Gx th)), (11, .cells false (φ.σ.X 2 lk nxt xa xb xc xn bpx)), (7, .cells false (m.C (.map 8))), (8, mapO m.ms), (13, o13), (15, o15), (16, o16)] GF 21 21)) ⟨e, [.bool r], s1⟩)
    (j17 : s1.get 17 = some (.cells false φ'.Fx)) (j19 : s1.get 19 = some (.cells false (φ'.Gx th))) (j11 : s1.get 11 = some (.cells false (φ.σ.X 2 lk nxt xa xb xc xn bpx))) (j7 : s1.get 7 = some (.cells false (m'.C (.map 8)))) (j8 : s1.get 8 = some (mapO m'.ms)) (j13 : s1.get 13 = some o13) (j15 : s1.get 15 = some o15) (j16 : s1.get 16 = some o16)
    (hnew : ∀ x ∈ new, 21 ≤ x.1 ∧ s1.get x.1 = some x.2 ∧ Lx x.2) : FXC φ th lk m (φ', m') (φ.σ.X 2 lk nxt xa xb xc xn bpx) o13 o15 o16 := by
  have hnd : (new.map (·.1)).Nodup := by rcases hl with rfl | ⟨o, rfl⟩ <;> simp
  have hxn : namess lo21 (φ.σ.X 2 lk nxt xa xb xc xn bpx) = true := X_lt hX _ rfl rfl rfl rfl
  have key := fun s hn k17 k19 k11 k7 k8 k13 k15 k16 kG => mkFX (fx0 := φ.Fx) (gx0 := φ.Gx th) (fc := φ'.Fx) (gc := φ'.Gx th) (xc := φ.σ.X 2 lk nxt xa xb xc xn bpx) new lo21 (lo1 _) (lo2 _) rfl hx j17 j19 j11 j7 j8 j13 j15 j16 hnew hnd (φ.Fx_names _ rfl rfl rfl) (φ.Gx_names th _) hxn (φ'.Fx_names _ rfl rfl rfl) (φ'.Gx_names th _) hxn h13 h15 h16 h13 h15 h16 s hn k17 k19 k11 k7 k8 k13 k15 k16 kG
  subst hr
  rcases hl with rfl | ⟨o, rfl⟩
  · refine ⟨nxt, xa, xb, xc, xn, bpx, 13, 15, 16, o13, o15, o16, oE, oE, oE, .inl rfl, .inl rfl, .inl rfl, by decide, h13, h15, h16, lxE, lxE, lxE, by rw [hσ]; exact X_same hX _ _ _, fun s hn k17 k19 k11 k7 k8 k13 k15 k16 kG => ?_⟩
    rw [hσ]
    exact Sound.ghost _ (Sound.ghost _ (Sound.ghost _ (key s hn k17 k19 k11 k7 k8 k13 k15 k16 kG)))
  · have ho := (hnew (22, o) (by simp)).2.2
    refine ⟨nxt, xa, xb, xc, xn, bpx, 13, 15, 16, o13, o15, o16, o, oE, oE, .inl rfl, .inl rfl, .inl rfl, by decide, h13, h15, h16, ho, lxE, lxE, by rw [hσ]; exact X_same hX _ _ _, fun s hn k17 k19 k11 k7 k8 k13 k15 k16 kG => ?_⟩
    rw [hσ]
    exact Sound.ghost _ (Sound.ghost _ (key s hn k17 k19 k11 k7 k8 k13 k15 k16 kG))
theorem FX_all (hO : φ.Ok lk) (hmv : ∀ a, getW m.ms a < 18446744073709551616) : FXC φ th lk m (φ.step th lk m) (φ.σ.X 2 lk nxt xa xb xc xn bpx) o13 o15 o16 := by
  obtain ⟨ln, en, fl, fe, σ⟩ := φ
  obtain ⟨⟨k1, k2⟩, k3, k4, k5, k6, k7⟩ := hO
  simp only at k1 k2 k3 k4 k5 k6 k7
  subst k3
  have hln : ln = 1 ∨ ln = 2 ∨ ln = 3 := by omega
  rcases hln with rfl | rfl | rfl
  · obtain ⟨v, hvv⟩ : ∃ v, getW m.ms aP = v := ⟨_, rfl⟩
    have hv : v < 18446744073709551616 := hvv ▸ hmv aP
    have hld : ∀ s : AS, s.get 7 = some (.cells false (m.C (.map 8))) → s.get 8 = some (mapO m.ms) → Sound Tryz.prog (.call 44 [.ptr 7 0, .agg (ak aP)] s) ⟨.ret, [.int .u64 (Int.ofNat v)], s.set 7 (.cells false ((m.load aP).C (.map 8)))⟩ := fun s j7 j8 => hvv ▸ pload_at j7 j8 aP
    show FXC ⟨1, 4, fl, fe, σ⟩ th lk m (⟨if goesF (getW m.ms aP) = true then 2 else 0, 4, fl, fe, σ⟩, m.load aP) _ _ _ _
    rw [hvv]
    have hq := aspq v hv
    have hg := goesF_cases v
    generalize cz (v % 8) = a2 at hq hg
    generalize v / 8 % 8 = b2 at hq hg
    generalize v / 64 % 8 = c2 at hq
    generalize v / 65536 % 281474976710656 = n2 at hq
    rcases hg with ⟨e, e1, e2⟩ | ⟨e, e1⟩ | ⟨e, e1, e2⟩
    · rw [if_pos e]
      have hx := runX_sound mixed none_sound (fx1_y v a2 b2 c2 n2 fe 0 0 0 th false (.cells false (m.C (.map 8))) (.cells false ((m.load aP).C (.map 8))) (mapO m.ms) .dead .dead .dead .dead .dead (.cells false (σ.X 2 lk nxt xa xb xc xn bpx)) .dead .dead .dead o13 .dead .dead .dead o15 .dead o16 .dead (.cells false (FS.Gx ⟨1, 4, fl, fe, σ⟩ th)) .dead .dead .dead .dead) ⟨hld _ rfl rfl, hq, qne a2 0 false (by simp [e1]), qne b2 1 false (by simp [e2]), trivial⟩
      exact FX_mk h13 h15 h16 hX (φ := ⟨1, 4, fl, fe, σ⟩) (φ' := ⟨2, 4, fl, fe, σ⟩) (m' := m.load aP) rfl rfl [(22, .cells false (phC a2 b2 c2 n2))] (.inr ⟨_, rfl⟩) hx rfl rfl rfl rfl rfl rfl rfl rfl (fun x hx => by
        rcases List.mem_singleton.1 hx with rfl
        exact ⟨by show 21 ≤ 22; omega, rfl, ⟨rfl, rfl⟩⟩)
    · rw [if_neg (by simp [e])]
      have hx := runX_sound mixed none_sound (fx1_n v a2 b2 c2 n2 fe 0 0 0 th false (.cells false (m.C (.map 8))) (.cells false ((m.load aP).C (.map 8))) (mapO m.ms) .dead .dead .dead .dead .dead (.cells false (σ.X 2 lk nxt xa xb xc xn bpx)) .dead .dead .dead o13 .dead .dead .dead o15 .dead o16 .dead (.cells false (FS.Gx ⟨1, 4, fl, fe, σ⟩ th)) .dead .dead .dead .dead) ⟨hld _ rfl rfl, hq, qne a2 0 true (by simp [e1]), trivial⟩
      exact FX_mk h13 h15 h16 hX (φ := ⟨1, 4, fl, fe, σ⟩) (φ' := ⟨0, 4, fl, fe, σ⟩) (m' := m.load aP) rfl rfl [] (.inl rfl) hx rfl rfl rfl rfl rfl rfl rfl rfl (fun x hx => by cases hx)
    · rw [if_neg (by simp [e])]
      have hx := runX_sound mixed none_sound (fx1_m v a2 b2 c2 n2 fe 0 0 0 th false (.cells false (m.C (.map 8))) (.cells false ((m.load aP).C (.map 8))) (mapO m.ms) .dead .dead .dead .dead .dead (.cells false (σ.X 2 lk nxt xa xb xc xn bpx)) .dead .dead .dead o13 .dead .dead .dead o15 .dead o16 .dead (.cells false (FS.Gx ⟨1, 4, fl, fe, σ⟩ th)) .dead .dead .dead .dead) ⟨hld _ rfl rfl, hq, qne a2 0 false (by simp [e1]), qne b2 1 true (by simp [e2]), trivial⟩
      exact FX_mk h13 h15 h16 hX (φ := ⟨1, 4, fl, fe, σ⟩) (φ' := ⟨0, 4, fl, fe, σ⟩) (m' := m.load aP) rfl rfl [] (.inl rfl) hx rfl rfl rfl rfl rfl rfl rfl rfl (fun x hx => by cases hx)
  · have h4 := k4 (by omega)
    have : fl = 1 ∨ fl = 2 ∨ fl = 3 ∨ fl = 4 := by omega
    rcases this with rfl | rfl | rfl | rfl
    · have hx := runX_sound mixed none_sound (fx2_1 0 0 0 0 0 fe 0 0 0 th false (.cells false (m.C (.map 8))) (.cells false ((m.store (aO th) mxu).C (.map 8))) (mapO m.ms) (mapO (m.store (aO th) mxu).ms) .dead .dead .dead .dead (.cells false (σ.X 2 lk nxt xa xb xc xn bpx)) .dead .dead .dead o13 .dead .dead .dead o15 .dead o16 .dead .dead .dead .dead .dead .dead) ⟨pstore_at (m := m) (b := 7) (bm := 8) rfl rfl (aO th) (by show (0 : Int) ≤ 8; decide) mxu, trivial⟩
      exact FX_mk h13 h15 h16 hX (φ := ⟨2, 4, 1, fe, σ⟩) (φ' := ⟨2, 4, 2, fe, σ⟩) (m' := m.store (aO th) mxu) rfl rfl [] (.inl rfl) hx rfl rfl rfl rfl rfl rfl rfl rfl (fun x hx => by cases hx)
    · have hx := runX_sound mixed none_sound (fx2_2 (getW m.ms aE) 0 0 0 0 fe 0 0 0 th false (.cells false (m.C (.map 8))) (.cells false ((m.load aE).C (.map 8))) (mapO m.ms) .dead .dead .dead .dead .dead (.cells false (σ.X 2 lk nxt xa xb xc xn bpx)) .dead .dead .dead o13 .dead .dead .dead o15 .dead o16 .dead .dead .dead .dead .dead .dead) ⟨pload_at (m := m) (b := 7) (bm := 8) rfl rfl aE, trivial⟩
      exact FX_mk h13 h15 h16 hX (φ := ⟨2, 4, 2, fe, σ⟩) (φ' := ⟨2, 4, 3, (getW m.ms aE), σ⟩) (m' := m.load aE) rfl rfl [] (.inl rfl) hx rfl rfl rfl rfl rfl rfl rfl rfl (fun x hx => by cases hx)
    · have hx := runX_sound mixed none_sound (fx2_3 0 0 0 0 0 fe (nxe fe) 0 0 th false (.cells false (m.C (.map 8))) (.cells false ((m.store (aO th) (nxe fe)).C (.map 8))) (mapO m.ms) (mapO (m.store (aO th) (nxe fe)).ms) .dead .dead .dead .dead (.cells false (σ.X 2 lk nxt xa xb xc xn bpx)) .dead .dead .dead o13 .dead .dead .dead o15 .dead o16 .dead .dead .dead .dead .dead .dead) ⟨nxeq fe, pstore_at (m := m) (b := 7) (bm := 8) rfl rfl (aO th) (by show (0 : Int) ≤ 8; decide) (nxe fe), trivial⟩
      exact FX_mk h13 h15 h16 hX (φ := ⟨2, 4, 3, fe, σ⟩) (φ' := ⟨2, 4, 4, fe, σ⟩) (m' := m.store (aO th) (nxe fe)) rfl rfl [] (.inl rfl) hx rfl rfl rfl rfl rfl rfl rfl rfl (fun x hx => by cases hx)
    · have hx := runX_sound mixed none_sound (fx2_4 0 0 0 0 0 fe (nxe fe) 0 0 th (m.casd aE fe) (.cells false (m.C (.map 8))) (.cells false ((m.cas aE fe (nxe fe)).C (.map 8))) (mapO m.ms) (mapO (m.cas aE fe (nxe fe)).ms) .dead .dead .dead .dead (.cells false (σ.X 2 lk nxt xa xb xc xn bpx)) .dead .dead .dead o13 .dead .dead .dead o15 .dead o16 .dead .dead .dead .dead .dead .dead) ⟨nxeq fe, pcas_at (m := m) (b := 7) (bm := 8) rfl rfl aE (by decide) fe (nxe fe), trivial⟩
      exact FX_mk h13 h15 h16 hX (φ := ⟨2, 4, 4, fe, σ⟩) (φ' := ⟨3, 4, 0, fe, σ⟩) (m' := m.cas aE fe (nxe fe)) rfl rfl [] (.inl rfl) hx rfl rfl rfl rfl rfl rfl rfl rfl (fun x hx => by cases hx)
  · obtain ⟨nxt', xa', xb', xc', xn', bpx', n13, n15, n16, o13', o15', o16', p1, p2, p3, q13, q15, q16, hne, m13, m15, m16, mp1, mp2, mp3, hX', hS⟩ := X_up k7 h13 h15 h16 hX hmv
    show FXC ⟨3, 4, fl, fe, σ⟩ th lk m (⟨if (σ.step 2 lk m).1.ln = 0 then 0 else 3, if (σ.step 2 lk m).1.ln = 0 then (σ.step 2 lk m).1.en else 4, fl, fe, (σ.step 2 lk m).1⟩, (σ.step 2 lk m).2) _ _ _ _
    generalize σ.step 2 lk m = r at *
    have pn : ∀ b, b = 11 ∨ b = 13 ∨ b = 15 ∨ b = 16 ∨ b = 21 ∨ b = 22 ∨ b = 23 → pN 21 [21, 22, 23] b = true := by
      intro b hb
      rcases hb with rfl | rfl | rfl | rfl | rfl | rfl | rfl <;> rfl
    have hnw : ∀ (s1 : AS), s1.get 21 = some p1 → s1.get 22 = some p2 → s1.get 23 = some p3 → ∀ x ∈ [(21, p1), (22, p2), (23, p3)], 21 ≤ x.1 ∧ s1.get x.1 = some x.2 ∧ Lx x.2 := fun s1 a b c x hx => by
      simp only [List.mem_cons, List.not_mem_nil, or_false] at hx
      rcases hx with rfl | rfl | rfl
      · exact ⟨Nat.le_refl 21, a, mp1⟩
      · exact ⟨by show 21 ≤ 22; omega, b, mp2⟩
      · exact ⟨by show 21 ≤ 23; omega, c, mp3⟩
    have hxn : namess lo21 (σ.X 2 lk nxt xa xb xc xn bpx) = true := X_lt hX _ rfl rfl rfl rfl
    have xnn : namess (pN 21 [21, 22, 23]) (r.1.X 2 lk nxt' xa' xb' xc' xn' bpx') = true := X_lt (lk := lk) hX' _ rfl (pn _ (by omega)) (pn _ (by omega)) (pn _ (by omega))
    by_cases h0 : r.1.ln = 0
    · rw [if_pos h0, if_pos h0]
      have d0 : decide (r.1.ln = 0) = true := decide_eq_true h0
      rw [d0] at hS
      have hx := runX_sound mixed none_sound (fx3_o 0 0 0 0 0 fe 0 r.1.en 0 th false (.cells false (m.C (.map 8))) (.cells false (r.2.C (.map 8))) (mapO m.ms) (mapO r.2.ms) .dead .dead .dead .dead (.cells false (σ.X 2 lk nxt xa xb xc xn bpx)) (.cells false (r.1.X 2 lk nxt' xa' xb' xc' xn' bpx')) .dead .dead o13 o13' .dead .dead o15 o15' o16 o16' (.cells false (FS.Gx ⟨1, 4, fl, fe, σ⟩ th)) .dead p1 p2 p3) ⟨escAny (hS _ rfl rfl rfl rfl rfl rfl rfl (fun x hx => by
        simp only [GF, List.mem_cons, List.not_mem_nil, or_false] at hx
        rcases hx with rfl | rfl | rfl <;> exact ⟨true, rfl⟩)) _, got_at hX' (by omega) (by omega) (by omega) (fun h => absurd h0 h) rfl, trivial⟩
      exact ⟨nxt', xa', xb', xc', xn', bpx', n13, n15, n16, o13', o15', o16', p1, p2, p3, q13, q15, q16, hne, m13, m15, m16, mp1, mp2, mp3, hX', fun s hn k17 k19 k11 k7 k8 k13 k15 k16 kG => mkFX (fx0 := FS.Fx ⟨3, 4, fl, fe, σ⟩) (gx0 := FS.Gx ⟨3, 4, fl, fe, σ⟩ th) (fc := FS.Fx ⟨0, r.1.en, fl, fe, r.1⟩) (gc := FS.Gx ⟨0, r.1.en, fl, fe, r.1⟩ th) (xc := r.1.X 2 lk nxt' xa' xb' xc' xn' bpx') [(21, p1), (22, p2), (23, p3)] (pN 21 [21, 22, 23]) (fun _ h => h) (fun b h => p21_id b h _ (.inl rfl)) rfl hx rfl rfl rfl rfl rfl rfl rfl rfl (hnw _ rfl rfl rfl) (show [21, 22, 23].Nodup by decide) rfl rfl hxn rfl rfl xnn h13 h15 h16 m13 m15 m16 s hn k17 k19 k11 k7 k8 k13 k15 k16 kG⟩
    · rw [if_neg h0, if_neg h0]
      have d0 : decide (r.1.ln = 0) = false := decide_eq_false h0
      rw [d0] at hS
      have hx := runX_sound mixed none_sound (fx3_c 0 0 0 0 0 fe 0 r.1.en 0 th false (.cells false (m.C (.map 8))) (.cells false (r.2.C (.map 8))) (mapO m.ms) (mapO r.2.ms) .dead .dead .dead .dead (.cells false (σ.X 2 lk nxt xa xb xc xn bpx)) (.cells false (r.1.X 2 lk nxt' xa' xb' xc' xn' bpx')) .dead .dead o13 o13' .dead .dead o15 o15' o16 o16' (.cells false (FS.Gx ⟨1, 4, fl, fe, σ⟩ th)) .dead p1 p2 p3) ⟨escAny (hS _ rfl rfl rfl rfl rfl rfl rfl (fun x hx => by
        simp only [GF, List.mem_cons, List.not_mem_nil, or_false] at hx
        rcases hx with rfl | rfl | rfl <;> exact ⟨true, rfl⟩)) _, trivial⟩
      exact ⟨nxt', xa', xb', xc', xn', bpx', n13, n15, n16, o13', o15', o16', p1, p2, p3, q13, q15, q16, hne, m13, m15, m16, mp1, mp2, mp3, hX', fun s hn k17 k19 k11 k7 k8 k13 k15 k16 kG => mkFX (fx0 := FS.Fx ⟨3, 4, fl, fe, σ⟩) (gx0 := FS.Gx ⟨3, 4, fl, fe, σ⟩ th) (fc := FS.Fx ⟨3, 4, fl, fe, r.1⟩) (gc := FS.Gx ⟨3, 4, fl, fe, r.1⟩ th) (xc := r.1.X 2 lk nxt' xa' xb' xc' xn' bpx') [(21, p1), (22, p2), (23, p3)] (pN 21 [21, 22, 23]) (fun _ h => h) (fun b h => p21_id b h _ (.inl rfl)) rfl hx rfl rfl rfl rfl rfl rfl rfl rfl (hnw _ rfl rfl rfl) (show [21, 22, 23].Nodup by decide) rfl rfl hxn rfl rfl xnn h13 h15 h16 m13 m15 m16 s hn k17 k19 k11 k7 k8 k13 k15 k16 kG⟩
end
/-! ### a Fallback's step, of the document, is the plain one -/
section
variable {m m' : PM} {fy0 gy0 y0 fc gc yc : List AV} {lv : AV} {o10 o14 oL o14' : AObj} {e : AExit} {s1 : AS}
theorem mkFY (new : List (Nat × AObj)) (hr : RO m.ms o10) (hf : Free o14)
    (hx : Sound Tryz.prog (.call 9 [.ptr 18 0, .ptr 9 0] (canF [(18, .cells false fy0), (20, .cells false gy0), (12, .cells false y0), (9, .cells false (m.C (LV m.ms 10))), (10, o10), (14, o14)] GF 21 21)) ⟨e, [undefA], s1⟩)
    (j18 : s1.get 18 = some (.cells false fc)) (j20 : s1.get 20 = some (.cells false gc)) (j12 : s1.get 12 = some (.cells false yc)) (j9 : s1.get 9 = some (.cells false (m'.C lv))) (j10 : s1.get 10 = some oL) (j14 : s1.get 14 = some o14')
    (hnew : ∀ x ∈ new, 21 ≤ x.1 ∧ s1.get x.1 = some x.2 ∧ Free x.2) (hnd : (new.map (·.1)).Nodup)
    (nf0 : namess lo21 fy0 = true) (ng0 : namess lo21 gy0 = true) (ny0 : namess lo21 y0 = true) (nf : namess lo21 fc = true) (ng : namess lo21 gc = true) (ny : namess (pN 21 (new.map (·.1))) yc = true) (nl : lv.names (pN 21 (new.map (·.1))) = true)
    (hL : (oL.rw = true ∨ oL = .dead) ∧ ∀ p, oL.names p = true) (l14 : Free o14') (s : AS) (hn : s.nx = 21)
    (k18 : s.get 18 = some (.cells false fy0)) (k20 : s.get 20 = some (.cells false gy0)) (k12 : s.get 12 = some (.cells false y0)) (k9 : s.get 9 = some (.cells false (m.C (LV m.ms 10)))) (k10 : s.get 10 = some o10) (k14 : s.get 14 = some o14) (kG : ∀ x ∈ GF, ∃ ro, s.get x.1 = some (.cells ro x.2)) :
    Sound Tryz.prog (.call 9 [.ptr 18 0, .ptr 9 0] s) ⟨.ret, [undefA], pushL ((((((s.set 18 (.cells false fc)).set 20 (.cells false gc)).set 12 (.cells false (rens (pR 21 (new.map (·.1)) (fun b => b) 21) yc))).set 9 (.cells false (m'.C (lv.ren (pR 21 (new.map (·.1)) (fun b => b) 21))))).set 10 oL).set 14 o14') (new.map (·.2))⟩ := by
  have ob : ∀ {b : Nat} {o : AObj}, s1.get b = some o → objAt s1 b = o := fun h => by simp [objAt, h]
  have rc : ∀ {l : List AV}, namess lo21 l = true → rens (pR 21 (new.map (·.1)) (fun b => b) 21) l = l := fun h => by rw [rens_congr (p := lo21) (π' := fun b => b) (lo2 _) h, rens_id]
  have := extN hx (by decide) (new.map (·.1)) (s := s) (fun x hx => by
      have hg := kG x hx
      simp only [GF, List.mem_cons, List.not_mem_nil, or_false] at hx
      rcases hx with rfl | rfl | rfl
      · exact ⟨show 0 < 21 by decide, show 0 ∉ [18, 20, 12, 9, 10, 14] by decide, rfl, hg⟩
      · exact ⟨show 1 < 21 by decide, show 1 ∉ [18, 20, 12, 9, 10, 14] by decide, rfl, hg⟩
      · exact ⟨show 2 < 21 by decide, show 2 ∉ [18, 20, 12, 9, 10, 14] by decide, rfl, hg⟩)
    ⟨⟨show 18 < 21 by decide, rfl, nf0, rfl, k18, by rw [ob j18]; exact .inl rfl, by rw [ob j18]; exact namess_sub (lo1 _) nf⟩, ⟨show 20 < 21 by decide, rfl, ng0, rfl, k20, by rw [ob j20]; exact .inl rfl, by rw [ob j20]; exact namess_sub (lo1 _) ng⟩, ⟨show 12 < 21 by decide, rfl, ny0, rfl, k12, by rw [ob j12]; exact .inl rfl, by rw [ob j12]; exact ny⟩,
      ⟨show 9 < 21 by decide, rfl, C_names _ _ _ (LV_names _ _ _ rfl), rfl, k9, by rw [ob j9]; exact .inl rfl, by rw [ob j9]; exact C_names _ _ _ nl⟩, ⟨show 10 < 21 by decide, hr.free.1, hr.free.nm _, rfl, k10, by rw [ob j10]; exact hL.1, by rw [ob j10]; exact hL.2 _⟩,
      ⟨show 14 < 21 by decide, hf.1, hf.nm _, rfl, k14, by rw [ob j14]; exact .inl l14.1, by rw [ob j14]; exact l14.nm _⟩, trivial⟩
    (show [18, 20, 12, 9, 10, 14].Nodup by decide) hnd (fun b hb => by
      obtain ⟨x, hx, rfl⟩ := List.mem_map.1 hb
      obtain ⟨g1, g2, g3⟩ := hnew x hx
      rw [ob g2]
      exact ⟨g1, g3.1, g3.nm _⟩) rfl rfl
  rw [hn] at this
  have en : ((new.map (·.1)).map fun b => (objAt s1 b).ren (pR 21 (new.map (·.1)) (fun b => b) 21)) = new.map (·.2) := by
    rw [List.map_map]
    refine List.map_congr_left fun x hx => ?_
    obtain ⟨g1, g2, g3⟩ := hnew x hx
    show (objAt s1 x.1).ren _ = _
    rw [ob g2, g3.ren]
  rw [en] at this
  simp only [List.map_cons, List.map_nil, setL, ob j18, ob j20, ob j12, ob j9, ob j10, ob j14, no_ren hL.2, l14.ren] at this
  have e18 : (AObj.cells false fc).ren (pR 21 (new.map (·.1)) (fun b => b) 21) = .cells false fc := congrArg (AObj.cells false) (rc nf)
  have e20 : (AObj.cells false gc).ren (pR 21 (new.map (·.1)) (fun b => b) 21) = .cells false gc := congrArg (AObj.cells false) (rc ng)
  have e12 : (AObj.cells false yc).ren (pR 21 (new.map (·.1)) (fun b => b) 21) = .cells false (rens (pR 21 (new.map (·.1)) (fun b => b) 21) yc) := rfl
  have e9 : (AObj.cells false (m'.C lv)).ren (pR 21 (new.map (·.1)) (fun b => b) 21) = .cells false (m'.C (lv.ren (pR 21 (new.map (·.1)) (fun b => b) 21))) := rfl
  rw [e18, e20, e12, e9] at this
  exact this
end
/-- What a step of the document's Fallback comes to. -/
def FYC (φ : FS) (th lk : Int) (m : PM) (r : FS × PM) (y0 : List AV) (o10 o14 : AObj) : Prop :=
  ∃ lv oL pA bp' o14' pC, Row2 r.2.ms 10 21 lv oL pA ∧ Bp r.1.σ 22 bp' o14' pC ∧
    ∀ s : AS, s.nx = 21 → s.get 18 = some (.cells false φ.Fy) → s.get 20 = some (.cells false (φ.Gy th)) → s.get 12 = some (.cells false y0) → s.get 9 = some (.cells false (m.C (LV m.ms 10))) → s.get 10 = some o10 → s.get 14 = some o14 → (∀ x ∈ GF, ∃ ro, s.get x.1 = some (.cells ro x.2)) →
      Sound Tryz.prog (.call 9 [.ptr 18 0, .ptr 9 0] s) ⟨.ret, [undefA], (((((((s.set 18 (.cells false r.1.Fy)).set 20 (.cells false (r.1.Gy th))).set 12 (.cells false (r.1.σ.Y 2 lk bp'))).set 9 (.cells false (r.2.C lv))).set 10 oL).set 14 o14').push pA).push pC⟩
theorem freeE : Free oE := ⟨rfl, rfl⟩
theorem Bp0.to {σ : SS} {bp : AV} {o14 : AObj} (h : Bp0 σ bp o14) : Bp σ 22 bp o14 oE := by
  obtain ⟨h1, h2⟩ := h
  refine ⟨h1, freeE, ?_⟩
  rcases h2 with h | h
  · exact .inl h
  · exact .inr (.inl h)
section
variable {φ : FS} {th lk : Int} {m : PM} {bp : AV} {o10 o14 : AObj} (hr : RO m.ms o10) (hb : Bp0 φ.σ bp o14)
include hr hb
omit hr in
theorem Y_nm : namess lo21 (φ.σ.Y 2 lk bp) = true := by
  have hbn : bp.names lo21 = true := by rcases hb.2 with ⟨rfl, _⟩ | ⟨rfl, _⟩ <;> rfl
  show (bp.names _ && true) = true
  rw [hbn]
  rfl
/-- A step that leaves the inner Switch, and the row, as they are. -/
theorem FY_mk {φ' : FS} {m' : PM} {e : AExit} {s1 : AS} (hσ : φ'.σ = φ.σ) (hms : m'.ms = m.ms)
    (hx : Sound Tryz.prog (.call 9 [.ptr 18 0, .ptr 9 0] (canF [(18, .cells false φ.Fy), (20, .cells false (φ.Gy th)), (12, .cells false (φ.σ.Y 2 lk bp)), (9, .cells false (m.C (LV m.ms 10))), (10, o10), (14, o14)] GF 21 21)) ⟨e, [undefA], s1⟩)
    (j18 : s1.get 18 = some (.cells false φ'.Fy)) (j20 : s1.get 20 = some (.cells false (φ'.Gy th))) (j12 : s1.get 12 = some (.cells false (φ.σ.Y 2 lk bp))) (j9 : s1.get 9 = some (.cells false (m'.C (LV m.ms 10)))) (j10 : s1.get 10 = some o10) (j14 : s1.get 14 = some o14) : FYC φ th lk m (φ', m') (φ.σ.Y 2 lk bp) o10 o14 := by
  have yn := Y_nm (φ := φ) (lk := lk) hb
  refine ⟨LV m.ms 10, o10, oE, bp, o14, oE, .inl ⟨by rw [hms], by rw [hms]; exact hr, freeE⟩, by rw [hσ]; exact hb.to, fun s hn k18 k20 k12 k9 k10 k14 kG => ?_⟩
  have := mkFY (fy0 := φ.Fy) (gy0 := φ.Gy th) (fc := φ'.Fy) (gc := φ'.Gy th) (lv := LV m.ms 10) [] hr hb.1 hx j18 j20 j12 j9 j10 j14 (fun x hx => by cases hx) List.nodup_nil (φ.Fy_names _ rfl rfl) rfl yn (φ'.Fy_names _ rfl rfl) rfl (namess_sub (lo1 _) yn) (LV_names _ _ _ rfl) ⟨.inl hr.free.1, fun p => hr.free.nm p⟩ hb.1 s hn k18 k20 k12 k9 k10 k14 kG
  rw [rens_congr (p := lo21) (π' := fun b => b) (lo2 _) yn, rens_id, LV_ren] at this
  rw [hσ]
  exact Sound.ghost _ (Sound.ghost _ this)
/-- A step that leaves the inner Switch as it is, and makes a row. -/
theorem FY_mkR {φ' : FS} {m' : PM} {e : AExit} {s1 : AS} {lv : AV} {oL pA : AObj} (hσ : φ'.σ = φ.σ) (h2 : Row2 m'.ms 10 23 lv oL pA)
    (hx : Sound Tryz.prog (.call 9 [.ptr 18 0, .ptr 9 0] (canF [(18, .cells false φ.Fy), (20, .cells false (φ.Gy th)), (12, .cells false (φ.σ.Y 2 lk bp)), (9, .cells false (m.C (LV m.ms 10))), (10, o10), (14, o14)] GF 21 21)) ⟨e, [undefA], s1⟩)
    (j18 : s1.get 18 = some (.cells false φ'.Fy)) (j20 : s1.get 20 = some (.cells false (φ'.Gy th))) (j12 : s1.get 12 = some (.cells false (φ.σ.Y 2 lk bp))) (j9 : s1.get 9 = some (.cells false (m'.C lv))) (j10 : s1.get 10 = some oL) (j14 : s1.get 14 = some o14) (j23 : s1.get 23 = some pA) : FYC φ th lk m (φ', m') (φ.σ.Y 2 lk bp) o10 o14 := by
  have yn := Y_nm (φ := φ) (lk := lk) hb
  refine ⟨lv.ren (pR 21 [23] (fun b => b) 21), oL, pA, bp, o14, oE, h2.ren (pR 21 [23] (fun b => b) 21), by rw [hσ]; exact hb.to, fun s hn k18 k20 k12 k9 k10 k14 kG => ?_⟩
  have := mkFY (fy0 := φ.Fy) (gy0 := φ.Gy th) (fc := φ'.Fy) (gc := φ'.Gy th) (lv := lv) [(23, pA)] hr hb.1 hx j18 j20 j12 j9 j10 j14 (fun x hx => by
    rcases List.mem_singleton.1 hx with rfl
    exact ⟨by show 21 ≤ 23; omega, j23, h2.o2⟩) (show [23].Nodup by decide) (φ.Fy_names _ rfl rfl) rfl yn (φ'.Fy_names _ rfl rfl) rfl (namess_sub (lo1 _) yn) (h2.names _ rfl rfl) h2.o1 hb.1 s hn k18 k20 k12 k9 k10 k14 kG
  rw [rens_congr (p := lo21) (π' := fun b => b) (lo2 _) yn, rens_id] at this
  rw [hσ]
  exact Sound.ghost _ this
theorem FY_all (hO : φ.Ok lk) (hl : m.ms.length < 16776000) (hmv : ∀ a, getW m.ms a < 18446744073709551616) : FYC φ th lk m (φ.step th lk m) (φ.σ.Y 2 lk bp) o10 o14 := by
  obtain ⟨ln, en, fl, fe, σ⟩ := φ
  obtain ⟨⟨k1, k2⟩, k3, k4, k5, k6, k7⟩ := hO
  simp only at k1 k2 k3 k4 k5 k6 k7
  subst k3
  have hl2 : m.ms.length < 16777000 := by omega
  have hln : ln = 1 ∨ ln = 2 ∨ ln = 3 := by omega
  rcases hln with rfl | rfl | rfl
  · obtain ⟨v, hvv⟩ : ∃ v, getW m.ms aP = v := ⟨_, rfl⟩
    have hv : v < 18446744073709551616 := hvv ▸ hmv aP
    have hld : ∀ s : AS, s.get 9 = some (.cells false (m.C (LV m.ms 10))) → s.get 10 = some o10 → Sound Tryz.prog (.call 32 [.ptr 9 0, .agg (ak aP)] s) ⟨.ret, [.int .u64 (Int.ofNat v)], s.set 9 (.cells false ((m.load aP).C (LV m.ms 10)))⟩ := fun s j7 j8 => hvv ▸ rload_at j7 j8 hr (by decide) hl2 aP
    show FYC ⟨1, 4, fl, fe, σ⟩ th lk m (⟨if goesF (getW m.ms aP) = true then 2 else 0, 4, fl, fe, σ⟩, m.load aP) _ _ _
    rw [hvv]
    have hq := raspq v hv
    have hg := goesF_cases v
    generalize cz (v % 8) = a2 at hq hg
    generalize v / 8 % 8 = b2 at hq hg
    generalize v / 64 % 8 = c2 at hq
    generalize v / 65536 % 281474976710656 = n2 at hq
    rcases hg with ⟨e, e1, e2⟩ | ⟨e, e1⟩ | ⟨e, e1, e2⟩
    · rw [if_pos e]
      have hx := runX_sound mixed none_sound (fy1_y v a2 b2 c2 n2 fe 0 0 0 th false .dead .dead .dead .dead (.cells false (m.C (LV m.ms 10))) (.cells false ((m.load aP).C (LV m.ms 10))) o10 .dead .dead .dead (.cells false (σ.Y 2 lk bp)) .dead .dead .dead o14 .dead .dead .dead .dead .dead .dead (.cells false (FS.Gy ⟨1, 4, fl, fe, σ⟩ th)) .dead .dead .dead) ⟨hld _ rfl rfl, hq, qne a2 0 false (by simp [e1]), qne b2 1 false (by simp [e2]), trivial⟩
      exact FY_mk hr hb (φ := ⟨1, 4, fl, fe, σ⟩) (φ' := ⟨2, 4, fl, fe, σ⟩) (m' := m.load aP) rfl rfl hx rfl rfl rfl rfl rfl rfl
    · rw [if_neg (by simp [e])]
      have hx := runX_sound mixed none_sound (fy1_n v a2 b2 c2 n2 fe 0 0 0 th false .dead .dead .dead .dead (.cells false (m.C (LV m.ms 10))) (.cells false ((m.load aP).C (LV m.ms 10))) o10 .dead .dead .dead (.cells false (σ.Y 2 lk bp)) .dead .dead .dead o14 .dead .dead .dead .dead .dead .dead (.cells false (FS.Gy ⟨1, 4, fl, fe, σ⟩ th)) .dead .dead .dead) ⟨hld _ rfl rfl, hq, qne a2 0 true (by simp [e1]), trivial⟩
      exact FY_mk hr hb (φ := ⟨1, 4, fl, fe, σ⟩) (φ' := ⟨0, 4, fl, fe, σ⟩) (m' := m.load aP) rfl rfl hx rfl rfl rfl rfl rfl rfl
    · rw [if_neg (by simp [e])]
      have hx := runX_sound mixed none_sound (fy1_m v a2 b2 c2 n2 fe 0 0 0 th false .dead .dead .dead .dead (.cells false (m.C (LV m.ms 10))) (.cells false ((m.load aP).C (LV m.ms 10))) o10 .dead .dead .dead (.cells false (σ.Y 2 lk bp)) .dead .dead .dead o14 .dead .dead .dead .dead .dead .dead (.cells false (FS.Gy ⟨1, 4, fl, fe, σ⟩ th)) .dead .dead .dead) ⟨hld _ rfl rfl, hq, qne a2 0 false (by simp [e1]), qne b2 1 true (by simp [e2]), trivial⟩
      exact FY_mk hr hb (φ := ⟨1, 4, fl, fe, σ⟩) (φ' := ⟨0, 4, fl, fe, σ⟩) (m' := m.load aP) rfl rfl hx rfl rfl rfl rfl rfl rfl
  · have h4 := k4 (by omega)
    have : fl = 1 ∨ fl = 2 ∨ fl = 3 ∨ fl = 4 := by omega
    rcases this with rfl | rfl | rfl | rfl
    · obtain ⟨lv, oL2, o2, h2, hp⟩ := rstore_at (m := m) (b := 9) (bL := 10) (s := ⟨⟨[(22, .cells false (ak aE)), (21, .cells false (ak (aO th))), (18, .cells false (FS.Fy ⟨2, 4, 1, fe, σ⟩)), (20, .cells false (FS.Gy ⟨2, 4, 1, fe, σ⟩ th)), (12, .cells false (σ.Y 2 lk bp)), (9, .cells false (m.C (LV m.ms 10))), (10, o10), (14, o14), (0, .cells true wfW), (1, .cells true wfB), (2, .cells true wfP)], 23, none, [22, 21]⟩, 23⟩) rfl rfl hr (by decide) hl (aO th) (by show (0 : Int) ≤ 8; decide) mxu
      have hx := runX_sound mixed none_sound (fy2_1 0 0 0 0 0 fe 0 0 0 th false .dead .dead .dead .dead (.cells false (m.C (LV m.ms 10))) (.cells false ((m.store (aO th) mxu).C lv)) o10 oL2 .dead .dead (.cells false (σ.Y 2 lk bp)) .dead .dead .dead o14 .dead .dead .dead .dead .dead .dead .dead o2 .dead .dead) ⟨escAny hp _, trivial⟩
      exact FY_mkR hr hb (φ := ⟨2, 4, 1, fe, σ⟩) (φ' := ⟨2, 4, 2, fe, σ⟩) (m' := m.store (aO th) mxu) rfl h2 hx rfl rfl rfl rfl rfl rfl rfl
    · have hx := runX_sound mixed none_sound (fy2_2 (getW m.ms aE) 0 0 0 0 fe 0 0 0 th false .dead .dead .dead .dead (.cells false (m.C (LV m.ms 10))) (.cells false ((m.load aE).C (LV m.ms 10))) o10 .dead .dead .dead (.cells false (σ.Y 2 lk bp)) .dead .dead .dead o14 .dead .dead .dead .dead .dead .dead .dead .dead .dead .dead) ⟨rload_at (m := m) (b := 9) (bL := 10) rfl rfl hr (by decide) hl2 aE, trivial⟩
      exact FY_mk hr hb (φ := ⟨2, 4, 2, fe, σ⟩) (φ' := ⟨2, 4, 3, getW m.ms aE, σ⟩) (m' := m.load aE) rfl rfl hx rfl rfl rfl rfl rfl rfl
    · obtain ⟨lv, oL2, o2, h2, hp⟩ := rstore_at (m := m) (b := 9) (bL := 10) (s := ⟨⟨[(22, .cells false (ak aE)), (21, .cells false (ak (aO th))), (18, .cells false (FS.Fy ⟨2, 4, 3, fe, σ⟩)), (20, .cells false (FS.Gy ⟨2, 4, 3, fe, σ⟩ th)), (12, .cells false (σ.Y 2 lk bp)), (9, .cells false (m.C (LV m.ms 10))), (10, o10), (14, o14), (0, .cells true wfW), (1, .cells true wfB), (2, .cells true wfP)], 23, none, [22, 21]⟩, 23⟩) rfl rfl hr (by decide) hl (aO th) (by show (0 : Int) ≤ 8; decide) (nxe fe)
      have hx := runX_sound mixed none_sound (fy2_3 0 0 0 0 0 fe (nxe fe) 0 0 th false .dead .dead .dead .dead (.cells false (m.C (LV m.ms 10))) (.cells false ((m.store (aO th) (nxe fe)).C lv)) o10 oL2 .dead .dead (.cells false (σ.Y 2 lk bp)) .dead .dead .dead o14 .dead .dead .dead .dead .dead .dead .dead o2 .dead .dead) ⟨nxeq fe, escAny hp _, trivial⟩
      exact FY_mkR hr hb (φ := ⟨2, 4, 3, fe, σ⟩) (φ' := ⟨2, 4, 4, fe, σ⟩) (m' := m.store (aO th) (nxe fe)) rfl h2 hx rfl rfl rfl rfl rfl rfl rfl
    · obtain ⟨lv, oL2, o2, h2, hp⟩ := rcas_at (m := m) (b := 9) (bL := 10) (s := ⟨⟨[(22, .cells false (ak aE)), (21, .cells false (ak (aO th))), (18, .cells false (FS.Fy ⟨2, 4, 4, fe, σ⟩)), (20, .cells false (FS.Gy ⟨2, 4, 4, fe, σ⟩ th)), (12, .cells false (σ.Y 2 lk bp)), (9, .cells false (m.C (LV m.ms 10))), (10, o10), (14, o14), (0, .cells true wfW), (1, .cells true wfB), (2, .cells true wfP)], 23, none, [22, 21]⟩, 23⟩) rfl rfl hr (by decide) hl aE (by decide) fe (nxe fe)
      have hx := runX_sound mixed none_sound (fy2_4 0 0 0 0 0 fe (nxe fe) 0 0 th (m.casd aE fe) .dead .dead .dead .dead (.cells false (m.C (LV m.ms 10))) (.cells false ((m.cas aE fe (nxe fe)).C lv)) o10 oL2 .dead .dead (.cells false (σ.Y 2 lk bp)) .dead .dead .dead o14 .dead .dead .dead .dead .dead .dead .dead o2 .dead .dead) ⟨nxeq fe, escAny hp _, trivial⟩
      exact FY_mkR hr hb (φ := ⟨2, 4, 4, fe, σ⟩) (φ' := ⟨3, 4, 0, fe, σ⟩) (m' := m.cas aE fe (nxe fe)) rfl h2 hx rfl rfl rfl rfl rfl rfl rfl
  · obtain ⟨lv, oL, pA, bp', o14', pC, h2, hb', hS⟩ := Y_up k7 hl hr hb hmv
    show FYC ⟨3, 4, fl, fe, σ⟩ th lk m (⟨if (σ.step 2 lk m).1.ln = 0 then 0 else 3, if (σ.step 2 lk m).1.ln = 0 then (σ.step 2 lk m).1.en else 4, fl, fe, (σ.step 2 lk m).1⟩, (σ.step 2 lk m).2) _ _ _
    generalize σ.step 2 lk m = r at *
    have hbn : ∀ p : Nat → Bool, p 14 = true → p 22 = true → bp'.names p = true := fun p h14 h18 => by
      rcases hb'.2.2 with ⟨e, _⟩ | ⟨e, _⟩ | ⟨e, _⟩ <;> rw [e]
      · rfl
      · exact h14
      · exact h18
    have yn := Y_nm (φ := ⟨3, 4, fl, fe, σ⟩) (lk := lk) hb
    have ynn : namess (pN 21 [21, 22]) (r.1.Y 2 lk bp') = true := by show (bp'.names _ && true) = true; rw [hbn _ rfl rfl]; rfl
    have rid : ∀ b, pN 21 [21, 22] b = true → pR 21 [21, 22] (fun b => b) 21 b = b := fun b h => by
      unfold pN at h
      unfold pR
      split
      · rfl
      · rename_i h1
        rcases Bool.or_eq_true_iff.1 h with e | e
        · exact absurd (by simpa using e) h1
        · have e : b = 21 ∨ b = 22 := by simpa using e
          rcases e with rfl | rfl <;> rfl
    have hnw : ∀ (s1 : AS), s1.get 21 = some pA → s1.get 22 = some pC → ∀ x ∈ [(21, pA), (22, pC)], 21 ≤ x.1 ∧ s1.get x.1 = some x.2 ∧ Free x.2 := fun s1 a b x hx => by
      simp only [List.mem_cons, List.not_mem_nil, or_false] at hx
      rcases hx with rfl | rfl
      · exact ⟨Nat.le_refl 21, a, h2.o2⟩
      · exact ⟨by show 21 ≤ 22; omega, b, hb'.2.1⟩
    have lvr : lv.ren (pR 21 [21, 22] (fun b => b) 21) = lv := by rw [ren_congr (p := pN 21 [21, 22]) (π' := fun b => b) rid (h2.names _ rfl rfl), ren_id]
    have yr : rens (pR 21 [21, 22] (fun b => b) 21) (r.1.Y 2 lk bp') = r.1.Y 2 lk bp' := by rw [rens_congr (p := pN 21 [21, 22]) (π' := fun b => b) rid ynn, rens_id]
    by_cases h0 : r.1.ln = 0
    · rw [if_pos h0, if_pos h0]
      have e0 : (Int.ofNat r.1.ln == Int.ofNat 0) = true := by simp [h0]
      have hx := runX_sound mixed none_sound (fy3_o r.1.ln 0 0 0 0 fe 0 r.1.en r.1.wt th false .dead .dead .dead .dead (.cells false (m.C (LV m.ms 10))) (.cells false (r.2.C lv)) o10 oL .dead .dead (.cells false (σ.Y 2 lk bp)) .dead .dead .dead o14 o14' .dead .dead .dead .dead .dead (.cells false (FS.Gy ⟨1, 4, fl, fe, σ⟩ th)) pA pC .dead (.int .u8 (Int.ofNat 2)) (.int .i64 lk) (.int .u64 (Int.ofNat r.1.w)) (.int .u8 (Int.ofNat r.1.a)) (.int .u8 (Int.ofNat r.1.b)) (.int .u8 (Int.ofNat r.1.c)) (.int .u64 (Int.ofNat r.1.n)) bp') ⟨escAny (hS _ rfl rfl rfl rfl rfl) _, by rw [e0]; rfl, trivial⟩
      refine ⟨lv, oL, pA, bp', o14', pC, h2, hb', fun s hn k18 k20 k12 k9 k10 k14 kG => ?_⟩
      have := mkFY (fy0 := FS.Fy ⟨3, 4, fl, fe, σ⟩) (gy0 := FS.Gy ⟨3, 4, fl, fe, σ⟩ th) (fc := FS.Fy ⟨0, r.1.en, fl, fe, r.1⟩) (gc := FS.Gy ⟨0, r.1.en, fl, fe, r.1⟩ th) (yc := r.1.Y 2 lk bp') (lv := lv) [(21, pA), (22, pC)] hr hb.1 hx rfl rfl rfl rfl rfl rfl (hnw _ rfl rfl) (show [21, 22].Nodup by decide) rfl rfl yn rfl rfl ynn (h2.names _ rfl rfl) h2.o1 hb'.1 s hn k18 k20 k12 k9 k10 k14 kG
      have this : Sound Tryz.prog _ ⟨_, _, (((((((s.set 18 (.cells false (FS.Fy ⟨0, r.1.en, fl, fe, r.1⟩))).set 20 (.cells false (FS.Gy ⟨0, r.1.en, fl, fe, r.1⟩ th))).set 12 (.cells false (rens (pR 21 [21, 22] (fun b => b) 21) (r.1.Y 2 lk bp')))).set 9 (.cells false (r.2.C (lv.ren (pR 21 [21, 22] (fun b => b) 21))))).set 10 oL).set 14 o14').push pA).push pC⟩ := this
      rw [yr, lvr] at this
      exact this
    · rw [if_neg h0, if_neg h0]
      have e0 : (Int.ofNat r.1.ln == Int.ofNat 0) = false := by simp [h0]
      have hx := runX_sound mixed none_sound (fy3_c r.1.ln 0 0 0 0 fe 0 r.1.en r.1.wt th false .dead .dead .dead .dead (.cells false (m.C (LV m.ms 10))) (.cells false (r.2.C lv)) o10 oL .dead .dead (.cells false (σ.Y 2 lk bp)) .dead .dead .dead o14 o14' .dead .dead .dead .dead .dead (.cells false (FS.Gy ⟨1, 4, fl, fe, σ⟩ th)) pA pC .dead (.int .u8 (Int.ofNat 2)) (.int .i64 lk) (.int .u64 (Int.ofNat r.1.w)) (.int .u8 (Int.ofNat r.1.a)) (.int .u8 (Int.ofNat r.1.b)) (.int .u8 (Int.ofNat r.1.c)) (.int .u64 (Int.ofNat r.1.n)) bp') ⟨escAny (hS _ rfl rfl rfl rfl rfl) _, by rw [e0]; rfl, trivial⟩
      refine ⟨lv, oL, pA, bp', o14', pC, h2, hb', fun s hn k18 k20 k12 k9 k10 k14 kG => ?_⟩
      have := mkFY (fy0 := FS.Fy ⟨3, 4, fl, fe, σ⟩) (gy0 := FS.Gy ⟨3, 4, fl, fe, σ⟩ th) (fc := FS.Fy ⟨3, 4, fl, fe, r.1⟩) (gc := FS.Gy ⟨3, 4, fl, fe, r.1⟩ th) (yc := r.1.Y 2 lk bp') (lv := lv) [(21, pA), (22, pC)] hr hb.1 hx rfl rfl rfl rfl rfl rfl (hnw _ rfl rfl) (show [21, 22].Nodup by decide) rfl rfl yn rfl rfl ynn (h2.names _ rfl rfl) h2.o1 hb'.1 s hn k18 k20 k12 k9 k10 k14 kG
      have this : Sound Tryz.prog _ ⟨_, _, (((((((s.set 18 (.cells false (FS.Fy ⟨3, 4, fl, fe, r.1⟩))).set 20 (.cells false (FS.Gy ⟨3, 4, fl, fe, r.1⟩ th))).set 12 (.cells false (rens (pR 21 [21, 22] (fun b => b) 21) (r.1.Y 2 lk bp')))).set 9 (.cells false (r.2.C (lv.ren (pR 21 [21, 22] (fun b => b) 21))))).set 10 oL).set 14 o14').push pA).push pC⟩ := this
      rw [yr, lvr] at this
      exact this
end
end Go.Proofs.YtchekpapgfojhaaGreatDoor.ctlsFallback
