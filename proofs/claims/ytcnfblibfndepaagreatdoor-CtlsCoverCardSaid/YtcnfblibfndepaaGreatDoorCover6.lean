/- A step of the Switch is the plain one. Conditions: those that each theorem names, and no others. -/
import Derived.Test.YtcnfblibfndepaaGreatDoorCover5
namespace Go.Proofs.YtcnfblibfndepaaGreatDoor.ctlsCover
open Go Go.Mini
section
variable {w a b c n to xa xb xc xn : Nat} {wt lk : Int} {br : Br} {m : PM} {h : AH} {nxt bpx : AV} {o13 o15 o16 d1 d2 d3 : AObj}
theorem X_2 (hO : SS.Ok ⟨2, 4, w, wt, a, b, c, n, br⟩ to lk) (k11 : AS.get ⟨h, 17⟩ 11 = some (.cells false (SS.X ⟨2, 4, w, wt, a, b, c, n, br⟩ to lk nxt xa xb xc xn bpx))) (k7 : AS.get ⟨h, 17⟩ 7 = some (.cells false (m.C (.map 8)))) (k8 : AS.get ⟨h, 17⟩ 8 = some (mapO m.ms)) (k13 : AS.get ⟨h, 17⟩ 13 = some o13) (k15 : AS.get ⟨h, 17⟩ 15 = some o15) (k16 : AS.get ⟨h, 17⟩ 16 = some o16)
    (kG : ∀ x ∈ GF, ∃ ro, AS.get ⟨h, 17⟩ x.1 = some (.cells ro x.2)) (h13 : Lx o13) (h15 : Lx o15) (h16 : Lx o16) (hX : XS ⟨2, 4, w, wt, a, b, c, n, br⟩ to 13 15 16 nxt xa xb xc xn bpx (O6 o13 o15 o16 d1 d2 d3)) (_ : ∀ a, getW m.ms a < 18446744073709551616) :
    XC to lk h (SS.step ⟨2, 4, w, wt, a, b, c, n, br⟩ to lk m) := by
  have ha : a ≤ 3 := hO.a
  have hb : b < 256 := hO.b
  have hc : c < 256 := hO.c
  have hn : n < 281474976710656 := hO.n
  have hto : to < 256 := hO.to
  have hE : Lx (.cells false []) := ⟨rfl, rfl⟩
  obtain ⟨hbp, hwt⟩ := wx_nil hX.wx rfl (show (2 : Nat) ≠ 0 by decide) (show (2 : Nat) ≠ 8 by decide)
  have hwt : wt = -1 := hwt
  subst hbp
  obtain ⟨q1, q2, q3, q4, hq4⟩ : ∃ q1 q2 q3 q4, bg4 a b c n to = (q1, q2, q3, q4) := ⟨_, _, _, _, rfl⟩
  obtain ⟨f1, f2, f3, f4⟩ := bg4_lt hb hto hq4
  obtain ⟨w2, hw2⟩ : ∃ w2, ofp q1 q2 q3 q4 = w2 := ⟨_, rfl⟩
  have es : SS.step ⟨2, 4, w, wt, a, b, c, n, br⟩ to lk m = SS.swp ⟨2, 4, w, wt, a, b, c, n, br⟩ lk m q1 q2 q3 q4 3 4 := by
    simp only [SS.step, hq4]
  rw [es]
  unfold SS.swp
  rw [hw2]
  obtain ⟨rfl, t15, t16⟩ := hX.nx
  have e15 : o15 = B11 := t15
  have e16 : o16 = .cells false (phC q1 q2 q3 q4) := by
    have t16 : o16 = .cells false (begP a b c n to).1 := t16
    rw [t16, bg4_C, hq4]
  clear t15 t16
  subst e15
  subst e16
  have hx0 : namess (fun b => Nat.blt b 17) (SS.X ⟨2, 4, w, wt, a, b, c, n, br⟩ to lk (.func (.func 60) [] [.ptr 15 0, .ptr 16 0]) xa xb xc xn .nilPtr) = true := by
    rfl
  have hcas := fun (s : AS) (j7 : s.get 7 = some (.cells false (m.C (.map 8)))) (j8 : s.get 8 = some (mapO m.ms)) => pcas_at j7 j8 aP (by decide) w w2
  by_cases hd : m.casd aP w = true
  · rw [hd] at hcas
    have hx := runX_sound mixed none_sound (x2_y to xa xb xc xn w 0 w2 0 0 0 0 0 0 0 0 0 q1 q2 q3 q4 lk (mlk lk) .nilPtr (.cells false (m.C (.map 8))) (.cells false ((m.cas aP w w2).C (.map 8))) (mapO m.ms) (mapO (m.cas aP w w2).ms) o13 B11 (.cells false (phC q1 q2 q3 q4)) false 0 0 .nilPtr .nilPtr .nilPtr .nilPtr .nilPtr) ⟨phq f2 f3 (by omega) hw2, hcas _ rfl rfl, phq f2 f3 (by omega) hw2, mlkq lk, trivial⟩
    simp only [hd, if_true]
    have fin := mkX (m' := m.cas aP w w2) (xc := (⟨3, 4, w2, wt, q1, q2, q3, q4, newB q4 lk⟩ : SS).X to lk (.func (.func 71) [] [.ptr 19 0, .ptr 20 0]) q1 q2 q3 q4 (.ptr 21 0)) (o13' := o13) (o15' := B11) (o16' := (.cells false (phC q1 q2 q3 q4))) k11 k7 k8 k13 k15 k16 kG h13 h15 h16 hx0 ([(21, .cells false ((newB q4 lk).PO 0)), (19, B11), (20, BF 62)] : List (Nat × AObj)) hx rfl rfl rfl rfl rfl rfl (fun x hx => by
          simp only [List.mem_cons, List.not_mem_nil, or_false] at hx
          rcases hx with rfl | rfl | rfl
          · exact ⟨show 17 ≤ 21 by decide, rfl, ⟨rfl, rfl⟩⟩
          · exact ⟨show 17 ≤ 19 by decide, rfl, lx11⟩
          · exact ⟨show 17 ≤ 20 by decide, rfl, lxF _⟩
          ) (show [21, 19, 20].Nodup by decide) rfl h13 lx11 h16
    have fin := (show rens (pR 17 (List.map (fun x : Nat × AObj => x.1) ([(21, .cells false ((newB q4 lk).PO 0)), (19, B11), (20, BF 62)] : List (Nat × AObj))) (fun b => b) 17) ((⟨3, 4, w2, wt, q1, q2, q3, q4, newB q4 lk⟩ : SS).X to lk (.func (.func 71) [] [.ptr 19 0, .ptr 20 0]) q1 q2 q3 q4 (.ptr 21 0)) = (⟨3, 4, w2, wt, q1, q2, q3, q4, newB q4 lk⟩ : SS).X to lk (.func (.func 71) [] [.ptr 18 0, .ptr 19 0]) q1 q2 q3 q4 (.ptr 17 0) from rfl) ▸ fin
    exact ⟨(.func (.func 71) [] [.ptr 18 0, .ptr 19 0]), q1, q2, q3, q4, (.ptr 17 0), 17, 18, 19, o13, B11, (.cells false (phC q1 q2 q3 q4)), .cells false ((newB q4 lk).PO 0), B11, BF 62, by simp, by simp, by simp, by decide, h13, lx11, h16, ⟨rfl, rfl⟩, lx11, lxF _, ⟨⟨rfl, rfl, rfl⟩, ⟨rfl, rfl, hwt⟩, fun _ => ⟨rfl, rfl, rfl, rfl⟩⟩, fin⟩
  · have hd0 : m.casd aP w = false := by simpa using hd
    rw [hd0] at hcas
    have hx := runX_sound mixed none_sound (x2_n to xa xb xc xn w 0 w2 0 0 0 0 0 0 0 0 0 q1 q2 q3 q4 lk (mlk lk) .nilPtr (.cells false (m.C (.map 8))) (.cells false ((m.cas aP w w2).C (.map 8))) (mapO m.ms) (mapO (m.cas aP w w2).ms) o13 B11 (.cells false (phC q1 q2 q3 q4)) false 0 0 .nilPtr .nilPtr .nilPtr .nilPtr .nilPtr) ⟨phq f2 f3 (by omega) hw2, hcas _ rfl rfl, trivial⟩
    simp only [hd0, Bool.false_eq_true, if_false]
    have fin := mkX (m' := m.cas aP w w2) (xc := (⟨0, 7, w, wt, a, b, c, n, br⟩ : SS).X to lk .nilFunc xa xb xc xn .nilPtr) (o13' := o13) (o15' := B11) (o16' := (.cells false (phC q1 q2 q3 q4))) k11 k7 k8 k13 k15 k16 kG h13 h15 h16 hx0 ([] : List (Nat × AObj)) hx rfl rfl rfl rfl rfl rfl (fun x hx => by cases hx) (by decide) rfl h13 lx11 h16
    have fin := (show rens (pR 17 (List.map (fun x : Nat × AObj => x.1) ([] : List (Nat × AObj))) (fun b => b) 17) ((⟨0, 7, w, wt, a, b, c, n, br⟩ : SS).X to lk .nilFunc xa xb xc xn .nilPtr) = (⟨0, 7, w, wt, a, b, c, n, br⟩ : SS).X to lk .nilFunc xa xb xc xn .nilPtr from rfl) ▸ fin
    exact ⟨.nilFunc, xa, xb, xc, xn, .nilPtr, 13, 15, 16, o13, B11, (.cells false (phC q1 q2 q3 q4)), (.cells false []), (.cells false []), (.cells false []), by simp, by simp, by simp, by decide, h13, lx11, h16, hE, hE, hE, ⟨rfl, .inl ⟨rfl, hwt⟩, fun h => by cases h⟩, Sound.ghost (.cells false []) (Sound.ghost (.cells false []) (Sound.ghost (.cells false []) (fin)))⟩
theorem X_4 (hO : SS.Ok ⟨4, 4, w, wt, a, b, c, n, br⟩ to lk) (k11 : AS.get ⟨h, 17⟩ 11 = some (.cells false (SS.X ⟨4, 4, w, wt, a, b, c, n, br⟩ to lk nxt xa xb xc xn bpx))) (k7 : AS.get ⟨h, 17⟩ 7 = some (.cells false (m.C (.map 8)))) (k8 : AS.get ⟨h, 17⟩ 8 = some (mapO m.ms)) (k13 : AS.get ⟨h, 17⟩ 13 = some o13) (k15 : AS.get ⟨h, 17⟩ 15 = some o15) (k16 : AS.get ⟨h, 17⟩ 16 = some o16)
    (kG : ∀ x ∈ GF, ∃ ro, AS.get ⟨h, 17⟩ x.1 = some (.cells ro x.2)) (h13 : Lx o13) (h15 : Lx o15) (h16 : Lx o16) (hX : XS ⟨4, 4, w, wt, a, b, c, n, br⟩ to 13 15 16 nxt xa xb xc xn bpx (O6 o13 o15 o16 d1 d2 d3)) (_ : ∀ a, getW m.ms a < 18446744073709551616) :
    XC to lk h (SS.step ⟨4, 4, w, wt, a, b, c, n, br⟩ to lk m) := by
  have ha : a ≤ 3 := hO.a
  have hb : b < 256 := hO.b
  have hc : c < 256 := hO.c
  have hn : n < 281474976710656 := hO.n
  have hto : to < 256 := hO.to
  have hE : Lx (.cells false []) := ⟨rfl, rfl⟩
  obtain ⟨hbp, hwt⟩ := wx_nil hX.wx rfl (show (4 : Nat) ≠ 0 by decide) (show (4 : Nat) ≠ 8 by decide)
  have hwt : wt = -1 := hwt
  subst hbp
  obtain ⟨rfl, rfl, rfl, rfl⟩ := hX.px (show (3 : Nat) ≤ 4 by decide)
  obtain ⟨x1, x2, x3, x4, hx4⟩ : ∃ x1 x2 x3 x4, nx4 xa xb xc xn = (x1, x2, x3, x4) := ⟨_, _, _, _, rfl⟩
  obtain ⟨g1, g2, g3, g4⟩ := nx4_lt hb hc hx4
  obtain ⟨w2, hw2⟩ : ∃ w2, ofp x1 x2 x3 x4 = w2 := ⟨_, rfl⟩
  have es : SS.step ⟨4, 4, w, wt, xa, xb, xc, xn, br⟩ to lk m = SS.swp ⟨4, 4, w, wt, xa, xb, xc, xn, br⟩ lk m x1 x2 x3 x4 5 4 := by
    simp only [SS.step, hx4]
  rw [es]
  unfold SS.swp
  rw [hw2]
  obtain ⟨rfl, t15⟩ := hX.nx
  have e15 : o15 = B11 := t15
  clear t15
  subst e15
  have hx0 : namess (fun b => Nat.blt b 17) (SS.X ⟨4, 4, w, wt, xa, xb, xc, xn, br⟩ to lk (.func (.func 78) [] [.ptr 15 0]) xa xb xc xn .nilPtr) = true := by
    rfl
  have hcas := fun (s : AS) (j7 : s.get 7 = some (.cells false (m.C (.map 8)))) (j8 : s.get 8 = some (mapO m.ms)) => pcas_at j7 j8 aP (by decide) w w2
  by_cases hd : m.casd aP w = true
  · rw [hd] at hcas
    have hx := runX_sound mixed none_sound (x4_y to xa xb xc xn w 0 w2 0 0 0 0 0 x1 x2 x3 x4 0 0 0 0 lk (mlk lk) .nilPtr (.cells false (m.C (.map 8))) (.cells false ((m.cas aP w w2).C (.map 8))) (mapO m.ms) (mapO (m.cas aP w w2).ms) o13 B11 o16 (mayP xa xb xc && decide (xa ≠ 0)) 0 0 .nilPtr .nilPtr .nilPtr .nilPtr .nilPtr) ⟨nextq ha hn hx4, phq g2 g3 (by omega) hw2, hcas _ rfl rfl, phq g2 g3 (by omega) hw2, trivial⟩
    simp only [hd, if_true]
    have fin := mkX (m' := m.cas aP w w2) (xc := (⟨5, 4, w2, wt, x1, x2, x3, x4, newB x4 lk⟩ : SS).X to lk (.func (.func 79) [.ptr 11 0] []) x1 x2 x3 x4 .nilPtr) (o13' := o13) (o15' := B11) (o16' := o16) k11 k7 k8 k13 k15 k16 kG h13 h15 h16 hx0 ([] : List (Nat × AObj)) hx rfl rfl rfl rfl rfl rfl (fun x hx => by cases hx) (by decide) rfl h13 lx11 h16
    have fin := (show rens (pR 17 (List.map (fun x : Nat × AObj => x.1) ([] : List (Nat × AObj))) (fun b => b) 17) ((⟨5, 4, w2, wt, x1, x2, x3, x4, newB x4 lk⟩ : SS).X to lk (.func (.func 79) [.ptr 11 0] []) x1 x2 x3 x4 .nilPtr) = (⟨5, 4, w2, wt, x1, x2, x3, x4, newB x4 lk⟩ : SS).X to lk (.func (.func 79) [.ptr 11 0] []) x1 x2 x3 x4 .nilPtr from rfl) ▸ fin
    exact ⟨(.func (.func 79) [.ptr 11 0] []), x1, x2, x3, x4, .nilPtr, 13, 15, 16, o13, B11, o16, (.cells false []), (.cells false []), (.cells false []), by simp, by simp, by simp, by decide, h13, lx11, h16, hE, hE, hE, ⟨rfl, .inl ⟨rfl, hwt⟩, fun _ => ⟨rfl, rfl, rfl, rfl⟩⟩, Sound.ghost (.cells false []) (Sound.ghost (.cells false []) (Sound.ghost (.cells false []) (fin)))⟩
  · have hd0 : m.casd aP w = false := by simpa using hd
    rw [hd0] at hcas
    have hx := runX_sound mixed none_sound (x4_n to xa xb xc xn w 0 w2 0 0 0 0 0 x1 x2 x3 x4 0 0 0 0 lk (mlk lk) .nilPtr (.cells false (m.C (.map 8))) (.cells false ((m.cas aP w w2).C (.map 8))) (mapO m.ms) (mapO (m.cas aP w w2).ms) o13 B11 o16 (mayP xa xb xc && decide (xa ≠ 0)) 0 0 .nilPtr .nilPtr .nilPtr .nilPtr .nilPtr) ⟨nextq ha hn hx4, phq g2 g3 (by omega) hw2, hcas _ rfl rfl, trivial⟩
    simp only [hd0, Bool.false_eq_true, if_false]
    have fin := mkX (m' := m.cas aP w w2) (xc := (⟨0, 7, w, wt, xa, xb, xc, xn, br⟩ : SS).X to lk .nilFunc xa xb xc xn .nilPtr) (o13' := o13) (o15' := B11) (o16' := o16) k11 k7 k8 k13 k15 k16 kG h13 h15 h16 hx0 ([] : List (Nat × AObj)) hx rfl rfl rfl rfl rfl rfl (fun x hx => by cases hx) (by decide) rfl h13 lx11 h16
    have fin := (show rens (pR 17 (List.map (fun x : Nat × AObj => x.1) ([] : List (Nat × AObj))) (fun b => b) 17) ((⟨0, 7, w, wt, xa, xb, xc, xn, br⟩ : SS).X to lk .nilFunc xa xb xc xn .nilPtr) = (⟨0, 7, w, wt, xa, xb, xc, xn, br⟩ : SS).X to lk .nilFunc xa xb xc xn .nilPtr from rfl) ▸ fin
    exact ⟨.nilFunc, xa, xb, xc, xn, .nilPtr, 13, 15, 16, o13, B11, o16, (.cells false []), (.cells false []), (.cells false []), by simp, by simp, by simp, by decide, h13, lx11, h16, hE, hE, hE, ⟨rfl, .inl ⟨rfl, hwt⟩, fun h => by cases h⟩, Sound.ghost (.cells false []) (Sound.ghost (.cells false []) (Sound.ghost (.cells false []) (fin)))⟩
theorem X_5 (hO : SS.Ok ⟨5, 4, w, wt, a, b, c, n, br⟩ to lk) (k11 : AS.get ⟨h, 17⟩ 11 = some (.cells false (SS.X ⟨5, 4, w, wt, a, b, c, n, br⟩ to lk nxt xa xb xc xn bpx))) (k7 : AS.get ⟨h, 17⟩ 7 = some (.cells false (m.C (.map 8)))) (k8 : AS.get ⟨h, 17⟩ 8 = some (mapO m.ms)) (k13 : AS.get ⟨h, 17⟩ 13 = some o13) (k15 : AS.get ⟨h, 17⟩ 15 = some o15) (k16 : AS.get ⟨h, 17⟩ 16 = some o16)
    (kG : ∀ x ∈ GF, ∃ ro, AS.get ⟨h, 17⟩ x.1 = some (.cells ro x.2)) (h13 : Lx o13) (h15 : Lx o15) (h16 : Lx o16) (hX : XS ⟨5, 4, w, wt, a, b, c, n, br⟩ to 13 15 16 nxt xa xb xc xn bpx (O6 o13 o15 o16 d1 d2 d3)) (_ : ∀ a, getW m.ms a < 18446744073709551616) :
    XC to lk h (SS.step ⟨5, 4, w, wt, a, b, c, n, br⟩ to lk m) := by
  have ha : a ≤ 3 := hO.a
  have hb : b < 256 := hO.b
  have hc : c < 256 := hO.c
  have hn : n < 281474976710656 := hO.n
  have hto : to < 256 := hO.to
  have hE : Lx (.cells false []) := ⟨rfl, rfl⟩
  obtain ⟨hbp, hwt⟩ := wx_nil hX.wx rfl (show (5 : Nat) ≠ 0 by decide) (show (5 : Nat) ≠ 8 by decide)
  have hwt : wt = -1 := hwt
  subst hbp
  obtain ⟨rfl, rfl, rfl, rfl⟩ := hX.px (show (3 : Nat) ≤ 5 by decide)
  obtain ⟨x1, x2, x3, x4, hx4⟩ : ∃ x1 x2 x3 x4, nx4 xa xb xc xn = (x1, x2, x3, x4) := ⟨_, _, _, _, rfl⟩
  obtain ⟨g1, g2, g3, g4⟩ := nx4_lt hb hc hx4
  obtain ⟨w2, hw2⟩ : ∃ w2, ofp x1 x2 x3 x4 = w2 := ⟨_, rfl⟩
  have es : SS.step ⟨5, 4, w, wt, xa, xb, xc, xn, br⟩ to lk m = SS.swp ⟨5, 4, w, wt, xa, xb, xc, xn, br⟩ lk m x1 x2 x3 x4 6 4 := by
    simp only [SS.step, hx4]
  rw [es]
  unfold SS.swp
  rw [hw2]
  have e := hX.nx
  have e : nxt = (.func (.func 79) [.ptr 11 0] []) := e
  subst e
  have hx0 : namess (fun b => Nat.blt b 17) (SS.X ⟨5, 4, w, wt, xa, xb, xc, xn, br⟩ to lk (.func (.func 79) [.ptr 11 0] []) xa xb xc xn .nilPtr) = true := by
    rfl
  have hcas := fun (s : AS) (j7 : s.get 7 = some (.cells false (m.C (.map 8)))) (j8 : s.get 8 = some (mapO m.ms)) => pcas_at j7 j8 aP (by decide) w w2
  by_cases hd : m.casd aP w = true
  · rw [hd] at hcas
    have hx := runX_sound mixed none_sound (x5_y to xa xb xc xn w 0 w2 0 0 0 0 0 x1 x2 x3 x4 0 0 0 0 lk (mlk lk) .nilPtr (.cells false (m.C (.map 8))) (.cells false ((m.cas aP w w2).C (.map 8))) (mapO m.ms) (mapO (m.cas aP w w2).ms) o13 o15 o16 (mayP xa xb xc && decide (xa ≠ 0)) 0 0 .nilPtr .nilPtr .nilPtr .nilPtr .nilPtr) ⟨nextq ha hn hx4, phq g2 g3 (by omega) hw2, hcas _ rfl rfl, phq g2 g3 (by omega) hw2, mlkq lk, trivial⟩
    simp only [hd, if_true]
    have fin := mkX (m' := m.cas aP w w2) (xc := (⟨6, 4, w2, wt, x1, x2, x3, x4, newB x4 lk⟩ : SS).X to lk (.func (.func 71) [] [.ptr 20 0, .ptr 21 0]) x1 x2 x3 x4 (.ptr 22 0)) (o13' := o13) (o15' := o15) (o16' := o16) k11 k7 k8 k13 k15 k16 kG h13 h15 h16 hx0 ([(22, .cells false ((newB x4 lk).PO 0)), (20, B11), (21, BF 57)] : List (Nat × AObj)) hx rfl rfl rfl rfl rfl rfl (fun x hx => by
          simp only [List.mem_cons, List.not_mem_nil, or_false] at hx
          rcases hx with rfl | rfl | rfl
          · exact ⟨show 17 ≤ 22 by decide, rfl, ⟨rfl, rfl⟩⟩
          · exact ⟨show 17 ≤ 20 by decide, rfl, lx11⟩
          · exact ⟨show 17 ≤ 21 by decide, rfl, lxF _⟩
          ) (show [22, 20, 21].Nodup by decide) rfl h13 h15 h16
    have fin := (show rens (pR 17 (List.map (fun x : Nat × AObj => x.1) ([(22, .cells false ((newB x4 lk).PO 0)), (20, B11), (21, BF 57)] : List (Nat × AObj))) (fun b => b) 17) ((⟨6, 4, w2, wt, x1, x2, x3, x4, newB x4 lk⟩ : SS).X to lk (.func (.func 71) [] [.ptr 20 0, .ptr 21 0]) x1 x2 x3 x4 (.ptr 22 0)) = (⟨6, 4, w2, wt, x1, x2, x3, x4, newB x4 lk⟩ : SS).X to lk (.func (.func 71) [] [.ptr 18 0, .ptr 19 0]) x1 x2 x3 x4 (.ptr 17 0) from rfl) ▸ fin
    exact ⟨(.func (.func 71) [] [.ptr 18 0, .ptr 19 0]), x1, x2, x3, x4, (.ptr 17 0), 17, 18, 19, o13, o15, o16, .cells false ((newB x4 lk).PO 0), B11, BF 57, by simp, by simp, by simp, by decide, h13, h15, h16, ⟨rfl, rfl⟩, lx11, lxF _, ⟨⟨rfl, rfl, rfl⟩, ⟨rfl, rfl, hwt⟩, fun _ => ⟨rfl, rfl, rfl, rfl⟩⟩, fin⟩
  · have hd0 : m.casd aP w = false := by simpa using hd
    rw [hd0] at hcas
    have hx := runX_sound mixed none_sound (x5_n to xa xb xc xn w 0 w2 0 0 0 0 0 x1 x2 x3 x4 0 0 0 0 lk (mlk lk) .nilPtr (.cells false (m.C (.map 8))) (.cells false ((m.cas aP w w2).C (.map 8))) (mapO m.ms) (mapO (m.cas aP w w2).ms) o13 o15 o16 (mayP xa xb xc && decide (xa ≠ 0)) 0 0 .nilPtr .nilPtr .nilPtr .nilPtr .nilPtr) ⟨nextq ha hn hx4, phq g2 g3 (by omega) hw2, hcas _ rfl rfl, trivial⟩
    simp only [hd0, Bool.false_eq_true, if_false]
    have fin := mkX (m' := m.cas aP w w2) (xc := (⟨0, 7, w, wt, xa, xb, xc, xn, br⟩ : SS).X to lk .nilFunc xa xb xc xn .nilPtr) (o13' := o13) (o15' := o15) (o16' := o16) k11 k7 k8 k13 k15 k16 kG h13 h15 h16 hx0 ([] : List (Nat × AObj)) hx rfl rfl rfl rfl rfl rfl (fun x hx => by cases hx) (by decide) rfl h13 h15 h16
    have fin := (show rens (pR 17 (List.map (fun x : Nat × AObj => x.1) ([] : List (Nat × AObj))) (fun b => b) 17) ((⟨0, 7, w, wt, xa, xb, xc, xn, br⟩ : SS).X to lk .nilFunc xa xb xc xn .nilPtr) = (⟨0, 7, w, wt, xa, xb, xc, xn, br⟩ : SS).X to lk .nilFunc xa xb xc xn .nilPtr from rfl) ▸ fin
    exact ⟨.nilFunc, xa, xb, xc, xn, .nilPtr, 13, 15, 16, o13, o15, o16, (.cells false []), (.cells false []), (.cells false []), by simp, by simp, by simp, by decide, h13, h15, h16, hE, hE, hE, ⟨rfl, .inl ⟨rfl, hwt⟩, fun h => by cases h⟩, Sound.ghost (.cells false []) (Sound.ghost (.cells false []) (Sound.ghost (.cells false []) (fin)))⟩
theorem X_7 (hO : SS.Ok ⟨7, 4, w, wt, a, b, c, n, br⟩ to lk) (k11 : AS.get ⟨h, 17⟩ 11 = some (.cells false (SS.X ⟨7, 4, w, wt, a, b, c, n, br⟩ to lk nxt xa xb xc xn bpx))) (k7 : AS.get ⟨h, 17⟩ 7 = some (.cells false (m.C (.map 8)))) (k8 : AS.get ⟨h, 17⟩ 8 = some (mapO m.ms)) (k13 : AS.get ⟨h, 17⟩ 13 = some o13) (k15 : AS.get ⟨h, 17⟩ 15 = some o15) (k16 : AS.get ⟨h, 17⟩ 16 = some o16)
    (kG : ∀ x ∈ GF, ∃ ro, AS.get ⟨h, 17⟩ x.1 = some (.cells ro x.2)) (h13 : Lx o13) (h15 : Lx o15) (h16 : Lx o16) (hX : XS ⟨7, 4, w, wt, a, b, c, n, br⟩ to 13 15 16 nxt xa xb xc xn bpx (O6 o13 o15 o16 d1 d2 d3)) (_ : ∀ a, getW m.ms a < 18446744073709551616) :
    XC to lk h (SS.step ⟨7, 4, w, wt, a, b, c, n, br⟩ to lk m) := by
  have ha : a ≤ 3 := hO.a
  have hb : b < 256 := hO.b
  have hc : c < 256 := hO.c
  have hn : n < 281474976710656 := hO.n
  have hto : to < 256 := hO.to
  have hE : Lx (.cells false []) := ⟨rfl, rfl⟩
  obtain ⟨hbp, hwt⟩ := wx_nil hX.wx rfl (show (7 : Nat) ≠ 0 by decide) (show (7 : Nat) ≠ 8 by decide)
  have hwt : wt = -1 := hwt
  subst hbp
  obtain ⟨rfl, rfl, rfl, rfl⟩ := hX.px (show (3 : Nat) ≤ 7 by decide)
  obtain ⟨x1, x2, x3, x4, hx4⟩ : ∃ x1 x2 x3 x4, nx4 xa xb xc xn = (x1, x2, x3, x4) := ⟨_, _, _, _, rfl⟩
  obtain ⟨g1, g2, g3, g4⟩ := nx4_lt hb hc hx4
  obtain ⟨w2, hw2⟩ : ∃ w2, ofp x1 x2 x3 x4 = w2 := ⟨_, rfl⟩
  have es : SS.step ⟨7, 4, w, wt, xa, xb, xc, xn, br⟩ to lk m = SS.swp ⟨7, 4, w, wt, xa, xb, xc, xn, br⟩ lk m x1 x2 x3 x4 0 0 := by
    simp only [SS.step, hx4]
  rw [es]
  unfold SS.swp
  rw [hw2]
  obtain ⟨rfl, t15⟩ := hX.nx
  have e15 : o15 = B11 := t15
  clear t15
  subst e15
  have hx0 : namess (fun b => Nat.blt b 17) (SS.X ⟨7, 4, w, wt, xa, xb, xc, xn, br⟩ to lk (.func (.func 74) [] [.ptr 15 0]) xa xb xc xn .nilPtr) = true := by
    rfl
  have hcas := fun (s : AS) (j7 : s.get 7 = some (.cells false (m.C (.map 8)))) (j8 : s.get 8 = some (mapO m.ms)) => pcas_at j7 j8 aP (by decide) w w2
  by_cases hd : m.casd aP w = true
  · rw [hd] at hcas
    have hx := runX_sound mixed none_sound (x7_y to xa xb xc xn w 0 w2 0 0 0 0 0 x1 x2 x3 x4 0 0 0 0 lk (mlk lk) .nilPtr (.cells false (m.C (.map 8))) (.cells false ((m.cas aP w w2).C (.map 8))) (mapO m.ms) (mapO (m.cas aP w w2).ms) o13 B11 o16 (mayP xa xb xc && decide (xa ≠ 0)) 0 0 .nilPtr .nilPtr .nilPtr .nilPtr .nilPtr) ⟨nextq ha hn hx4, phq g2 g3 (by omega) hw2, hcas _ rfl rfl, phq g2 g3 (by omega) hw2, trivial⟩
    simp only [hd, if_true]
    have fin := mkX (m' := m.cas aP w w2) (xc := (⟨0, 0, w2, wt, x1, x2, x3, x4, newB x4 lk⟩ : SS).X to lk .nilFunc x1 x2 x3 x4 .nilPtr) (o13' := o13) (o15' := B11) (o16' := o16) k11 k7 k8 k13 k15 k16 kG h13 h15 h16 hx0 ([] : List (Nat × AObj)) hx rfl rfl rfl rfl rfl rfl (fun x hx => by cases hx) (by decide) rfl h13 lx11 h16
    have fin := (show rens (pR 17 (List.map (fun x : Nat × AObj => x.1) ([] : List (Nat × AObj))) (fun b => b) 17) ((⟨0, 0, w2, wt, x1, x2, x3, x4, newB x4 lk⟩ : SS).X to lk .nilFunc x1 x2 x3 x4 .nilPtr) = (⟨0, 0, w2, wt, x1, x2, x3, x4, newB x4 lk⟩ : SS).X to lk .nilFunc x1 x2 x3 x4 .nilPtr from rfl) ▸ fin
    exact ⟨.nilFunc, x1, x2, x3, x4, .nilPtr, 13, 15, 16, o13, B11, o16, (.cells false []), (.cells false []), (.cells false []), by simp, by simp, by simp, by decide, h13, lx11, h16, hE, hE, hE, ⟨rfl, .inl ⟨rfl, hwt⟩, fun h => by cases h⟩, Sound.ghost (.cells false []) (Sound.ghost (.cells false []) (Sound.ghost (.cells false []) (fin)))⟩
  · have hd0 : m.casd aP w = false := by simpa using hd
    rw [hd0] at hcas
    have hx := runX_sound mixed none_sound (x7_n to xa xb xc xn w 0 w2 0 0 0 0 0 x1 x2 x3 x4 0 0 0 0 lk (mlk lk) .nilPtr (.cells false (m.C (.map 8))) (.cells false ((m.cas aP w w2).C (.map 8))) (mapO m.ms) (mapO (m.cas aP w w2).ms) o13 B11 o16 (mayP xa xb xc && decide (xa ≠ 0)) 0 0 .nilPtr .nilPtr .nilPtr .nilPtr .nilPtr) ⟨nextq ha hn hx4, phq g2 g3 (by omega) hw2, hcas _ rfl rfl, trivial⟩
    simp only [hd0, Bool.false_eq_true, if_false]
    have fin := mkX (m' := m.cas aP w w2) (xc := (⟨0, 7, w, wt, xa, xb, xc, xn, br⟩ : SS).X to lk .nilFunc xa xb xc xn .nilPtr) (o13' := o13) (o15' := B11) (o16' := o16) k11 k7 k8 k13 k15 k16 kG h13 h15 h16 hx0 ([] : List (Nat × AObj)) hx rfl rfl rfl rfl rfl rfl (fun x hx => by cases hx) (by decide) rfl h13 lx11 h16
    have fin := (show rens (pR 17 (List.map (fun x : Nat × AObj => x.1) ([] : List (Nat × AObj))) (fun b => b) 17) ((⟨0, 7, w, wt, xa, xb, xc, xn, br⟩ : SS).X to lk .nilFunc xa xb xc xn .nilPtr) = (⟨0, 7, w, wt, xa, xb, xc, xn, br⟩ : SS).X to lk .nilFunc xa xb xc xn .nilPtr from rfl) ▸ fin
    exact ⟨.nilFunc, xa, xb, xc, xn, .nilPtr, 13, 15, 16, o13, B11, o16, (.cells false []), (.cells false []), (.cells false []), by simp, by simp, by simp, by decide, h13, lx11, h16, hE, hE, hE, ⟨rfl, .inl ⟨rfl, hwt⟩, fun h => by cases h⟩, Sound.ghost (.cells false []) (Sound.ghost (.cells false []) (Sound.ghost (.cells false []) (fin)))⟩
theorem X_8 (hO : SS.Ok ⟨8, 4, w, wt, a, b, c, n, br⟩ to lk) (k11 : AS.get ⟨h, 17⟩ 11 = some (.cells false (SS.X ⟨8, 4, w, wt, a, b, c, n, br⟩ to lk nxt xa xb xc xn bpx))) (k7 : AS.get ⟨h, 17⟩ 7 = some (.cells false (m.C (.map 8)))) (k8 : AS.get ⟨h, 17⟩ 8 = some (mapO m.ms)) (k13 : AS.get ⟨h, 17⟩ 13 = some o13) (k15 : AS.get ⟨h, 17⟩ 15 = some o15) (k16 : AS.get ⟨h, 17⟩ 16 = some o16)
    (kG : ∀ x ∈ GF, ∃ ro, AS.get ⟨h, 17⟩ x.1 = some (.cells ro x.2)) (h13 : Lx o13) (h15 : Lx o15) (h16 : Lx o16) (hX : XS ⟨8, 4, w, wt, a, b, c, n, br⟩ to 13 15 16 nxt xa xb xc xn bpx (O6 o13 o15 o16 d1 d2 d3)) (_ : ∀ a, getW m.ms a < 18446744073709551616) :
    XC to lk h (SS.step ⟨8, 4, w, wt, a, b, c, n, br⟩ to lk m) := by
  have ha : a ≤ 3 := hO.a
  have hb : b < 256 := hO.b
  have hc : c < 256 := hO.c
  have hn : n < 281474976710656 := hO.n
  have hto : to < 256 := hO.to
  have hE : Lx (.cells false []) := ⟨rfl, rfl⟩
  have hbpn : bpx.names (fun b => Nat.blt b 17) = true ∧ (∀ l, bpx.ren (pR 17 l (fun b => b) 17) = bpx) := by
    have hwx := hX.wx
    unfold WX at hwx
    rw [if_neg (by simp [SS.live])] at hwx
    rcases hwx with ⟨rfl, _⟩ | ⟨_, rfl, _⟩
    · exact ⟨rfl, fun _ => rfl⟩
    · exact ⟨rfl, fun _ => rfl⟩
  obtain ⟨rfl, rfl, rfl, rfl⟩ := hX.px (show (3 : Nat) ≤ 8 by decide)
  obtain ⟨w2, hw2⟩ : ∃ w2, ofp 0 xb 0 (mo xn) = w2 := ⟨_, rfl⟩
  have es : SS.step ⟨8, 4, w, wt, xa, xb, xc, xn, br⟩ to lk m = SS.swp ⟨8, 4, w, wt, xa, xb, xc, xn, br⟩ lk m 0 xb 0 (mo xn) 0 9 := by
    simp only [SS.step]
  rw [es]
  unfold SS.swp
  rw [hw2]
  have e := hX.nx
  have e : nxt = (.func (.func 77) [.ptr 11 0] []) := e
  subst e
  have hx0 : namess (fun b => Nat.blt b 17) (SS.X ⟨8, 4, w, wt, xa, xb, xc, xn, br⟩ to lk (.func (.func 77) [.ptr 11 0] []) xa xb xc xn bpx) = true := by
    show ((AV.func (.func 77) [.ptr 11 0] []).names (fun b => Nat.blt b 17) && (true && (true && (true && (true && (true && (true && (true && (true && (true && (bpx.names (fun b => Nat.blt b 17) && true))))))))))) = true
    rw [hbpn.1]
    rfl
  have hcas := fun (s : AS) (j7 : s.get 7 = some (.cells false (m.C (.map 8)))) (j8 : s.get 8 = some (mapO m.ms)) => pcas_at j7 j8 aP (by decide) w w2
  by_cases hd : m.casd aP w = true
  · rw [hd] at hcas
    have hx := runX_sound mixed none_sound (x8_y to xa xb xc xn w 0 w2 0 0 0 0 0 0 0 0 0 0 0 0 0 lk (mlk lk) bpx (.cells false (m.C (.map 8))) (.cells false ((m.cas aP w w2).C (.map 8))) (mapO m.ms) (mapO (m.cas aP w w2).ms) o13 o15 o16 false 0 0 .nilPtr .nilPtr .nilPtr .nilPtr .nilPtr) ⟨q_inc xn hn, q_rem xn, phq hb (by omega) (by have := mo_lt xn; omega) hw2, hcas _ rfl rfl, phq hb (by omega) (by have := mo_lt xn; omega) hw2, trivial⟩
    simp only [hd, if_true]
    have hwx := hX.wx
    have hren : rens (pR 17 (List.map (fun x : Nat × AObj => x.1) ([] : List (Nat × AObj))) (fun b => b) 17) ((⟨0, 9, w2, wt, 0, xb, 0, mo xn, newB (mo xn) lk⟩ : SS).X to lk .nilFunc 0 xb 0 (mo xn) bpx) = (⟨0, 9, w2, wt, 0, xb, 0, mo xn, newB (mo xn) lk⟩ : SS).X to lk .nilFunc 0 xb 0 (mo xn) bpx := by
      show [AV.nilFunc, _, _, _, _, _, _, _, _, _, bpx.ren _] = _
      rw [hbpn.2]
      rfl
    have hnm : namess (pN 17 (List.map (fun x : Nat × AObj => x.1) ([] : List (Nat × AObj)))) ((⟨0, 9, w2, wt, 0, xb, 0, mo xn, newB (mo xn) lk⟩ : SS).X to lk .nilFunc 0 xb 0 (mo xn) bpx) = true := by
      refine namess_sub (fun b hb => ?_) (show namess (fun b => Nat.blt b 17) ((⟨0, 9, w2, wt, 0, xb, 0, mo xn, newB (mo xn) lk⟩ : SS).X to lk .nilFunc 0 xb 0 (mo xn) bpx) = true from ?_)
      · unfold pN; rw [hb]; rfl
      · show (true && (true && (true && (true && (true && (true && (true && (true && (true && (true && (bpx.names (fun b => Nat.blt b 17) && true))))))))))) = true
        rw [hbpn.1]; rfl
    have hwx2 : WX (⟨0, 9, w2, wt, 0, xb, 0, mo xn, newB (mo xn) lk⟩ : SS) 13 bpx (O6 o13 o15 o16 (.cells false []) (.cells false []) (.cells false [])) := by
      unfold WX at hwx ⊢
      rw [if_neg (by simp [SS.live])] at hwx ⊢
      rcases hwx with h | ⟨_, h1, h2⟩
      · exact .inl h
      · exact .inr ⟨.inl rfl, h1, h2⟩
    have fin := mkX (m' := m.cas aP w w2) (xc := (⟨0, 9, w2, wt, 0, xb, 0, mo xn, newB (mo xn) lk⟩ : SS).X to lk .nilFunc 0 xb 0 (mo xn) bpx) (o13' := o13) (o15' := o15) (o16' := o16) k11 k7 k8 k13 k15 k16 kG h13 h15 h16 hx0 ([] : List (Nat × AObj)) hx rfl rfl rfl rfl rfl rfl (fun x hx => by cases hx) (by decide) hnm h13 h15 h16
    have fin := (show rens (pR 17 (List.map (fun x : Nat × AObj => x.1) ([] : List (Nat × AObj))) (fun b => b) 17) ((⟨0, 9, w2, wt, 0, xb, 0, mo xn, newB (mo xn) lk⟩ : SS).X to lk .nilFunc 0 xb 0 (mo xn) bpx) = (⟨0, 9, w2, wt, 0, xb, 0, mo xn, newB (mo xn) lk⟩ : SS).X to lk .nilFunc 0 xb 0 (mo xn) bpx from hren) ▸ fin
    exact ⟨.nilFunc, 0, xb, 0, (mo xn), bpx, 13, 15, 16, o13, o15, o16, (.cells false []), (.cells false []), (.cells false []), by simp, by simp, by simp, by decide, h13, h15, h16, hE, hE, hE, ⟨rfl, hwx2, fun h => by cases h⟩, Sound.ghost (.cells false []) (Sound.ghost (.cells false []) (Sound.ghost (.cells false []) (fin)))⟩
  · have hd0 : m.casd aP w = false := by simpa using hd
    rw [hd0] at hcas
    have hx := runX_sound mixed none_sound (x8_n to xa xb xc xn w 0 w2 0 0 0 0 0 0 0 0 0 0 0 0 0 lk (mlk lk) bpx (.cells false (m.C (.map 8))) (.cells false ((m.cas aP w w2).C (.map 8))) (mapO m.ms) (mapO (m.cas aP w w2).ms) o13 o15 o16 false 0 0 .nilPtr .nilPtr .nilPtr .nilPtr .nilPtr) ⟨q_inc xn hn, q_rem xn, phq hb (by omega) (by have := mo_lt xn; omega) hw2, hcas _ rfl rfl, trivial⟩
    simp only [hd0, Bool.false_eq_true, if_false]
    have hwx := hX.wx
    have hren : rens (pR 17 (List.map (fun x : Nat × AObj => x.1) ([] : List (Nat × AObj))) (fun b => b) 17) ((⟨0, 7, w, wt, xa, xb, xc, xn, br⟩ : SS).X to lk .nilFunc xa xb xc xn bpx) = (⟨0, 7, w, wt, xa, xb, xc, xn, br⟩ : SS).X to lk .nilFunc xa xb xc xn bpx := by
      show [AV.nilFunc, _, _, _, _, _, _, _, _, _, bpx.ren _] = _
      rw [hbpn.2]
      rfl
    have hnm : namess (pN 17 (List.map (fun x : Nat × AObj => x.1) ([] : List (Nat × AObj)))) ((⟨0, 7, w, wt, xa, xb, xc, xn, br⟩ : SS).X to lk .nilFunc xa xb xc xn bpx) = true := by
      refine namess_sub (fun b hb => ?_) (show namess (fun b => Nat.blt b 17) ((⟨0, 7, w, wt, xa, xb, xc, xn, br⟩ : SS).X to lk .nilFunc xa xb xc xn bpx) = true from ?_)
      · unfold pN; rw [hb]; rfl
      · show (true && (true && (true && (true && (true && (true && (true && (true && (true && (true && (bpx.names (fun b => Nat.blt b 17) && true))))))))))) = true
        rw [hbpn.1]; rfl
    have hwx2 : WX (⟨0, 7, w, wt, xa, xb, xc, xn, br⟩ : SS) 13 bpx (O6 o13 o15 o16 (.cells false []) (.cells false []) (.cells false [])) := by
      unfold WX at hwx ⊢
      rw [if_neg (by simp [SS.live])] at hwx ⊢
      rcases hwx with h | ⟨_, h1, h2⟩
      · exact .inl h
      · exact .inr ⟨.inl rfl, h1, h2⟩
    have fin := mkX (m' := m.cas aP w w2) (xc := (⟨0, 7, w, wt, xa, xb, xc, xn, br⟩ : SS).X to lk .nilFunc xa xb xc xn bpx) (o13' := o13) (o15' := o15) (o16' := o16) k11 k7 k8 k13 k15 k16 kG h13 h15 h16 hx0 ([] : List (Nat × AObj)) hx rfl rfl rfl rfl rfl rfl (fun x hx => by cases hx) (by decide) hnm h13 h15 h16
    have fin := (show rens (pR 17 (List.map (fun x : Nat × AObj => x.1) ([] : List (Nat × AObj))) (fun b => b) 17) ((⟨0, 7, w, wt, xa, xb, xc, xn, br⟩ : SS).X to lk .nilFunc xa xb xc xn bpx) = (⟨0, 7, w, wt, xa, xb, xc, xn, br⟩ : SS).X to lk .nilFunc xa xb xc xn bpx from hren) ▸ fin
    exact ⟨.nilFunc, xa, xb, xc, xn, bpx, 13, 15, 16, o13, o15, o16, (.cells false []), (.cells false []), (.cells false []), by simp, by simp, by simp, by decide, h13, h15, h16, hE, hE, hE, ⟨rfl, hwx2, fun h => by cases h⟩, Sound.ghost (.cells false []) (Sound.ghost (.cells false []) (Sound.ghost (.cells false []) (fin)))⟩
end
end Go.Proofs.YtcnfblibfndepaaGreatDoor.ctlsCover
namespace Go.Proofs.YtcnfblibfndepaaGreatDoor.ctlsCover
open Go Go.Mini
section
variable {w a b c n to xa xb xc xn : Nat} {wt lk : Int} {br : Br} {m : PM} {h : AH} {nxt bpx : AV} {o13 o15 o16 d1 d2 d3 : AObj}
theorem X_1 (hO : SS.Ok ⟨1, 4, w, wt, a, b, c, n, br⟩ to lk) (k11 : AS.get ⟨h, 17⟩ 11 = some (.cells false (SS.X ⟨1, 4, w, wt, a, b, c, n, br⟩ to lk nxt xa xb xc xn bpx))) (k7 : AS.get ⟨h, 17⟩ 7 = some (.cells false (m.C (.map 8)))) (k8 : AS.get ⟨h, 17⟩ 8 = some (mapO m.ms)) (k13 : AS.get ⟨h, 17⟩ 13 = some o13) (k15 : AS.get ⟨h, 17⟩ 15 = some o15) (k16 : AS.get ⟨h, 17⟩ 16 = some o16)
    (kG : ∀ x ∈ GF, ∃ ro, AS.get ⟨h, 17⟩ x.1 = some (.cells ro x.2)) (h13 : Lx o13) (h15 : Lx o15) (h16 : Lx o16) (hX : XS ⟨1, 4, w, wt, a, b, c, n, br⟩ to 13 15 16 nxt xa xb xc xn bpx (O6 o13 o15 o16 d1 d2 d3)) (hmv : ∀ a, getW m.ms a < 18446744073709551616) :
    XC to lk h (SS.step ⟨1, 4, w, wt, a, b, c, n, br⟩ to lk m) := by
  have ha : a ≤ 3 := hO.a
  have hb : b < 256 := hO.b
  have hc : c < 256 := hO.c
  have hn : n < 281474976710656 := hO.n
  have hto : to < 256 := hO.to
  have hE : Lx (.cells false []) := ⟨rfl, rfl⟩
  obtain ⟨hbp, hwt⟩ := wx_nil hX.wx rfl (show (1 : Nat) ≠ 0 by decide) (show (1 : Nat) ≠ 8 by decide)
  have hwt : wt = -1 := hwt
  subst hbp
  have e := hX.nx
  have e : nxt = .func (.func 29) [.ptr 11 0] [] := e
  subst e
  show XC to lk h (SS.one ⟨1, 4, w, wt, a, b, c, n, br⟩ to lk (getW m.ms aP), m.load aP)
  have hx0 : namess (fun b => Nat.blt b 17) (SS.X ⟨1, 4, w, wt, a, b, c, n, br⟩ to lk (.func (.func 29) [.ptr 11 0] []) xa xb xc xn .nilPtr) = true := rfl
  obtain ⟨v, hvv⟩ : ∃ v, getW m.ms aP = v := ⟨_, rfl⟩
  have hv : v < 18446744073709551616 := hvv ▸ hmv aP
  have hld : ∀ s : AS, s.get 7 = some (.cells false (m.C (.map 8))) → s.get 8 = some (mapO m.ms) → Sound Tryz.prog (.call 28 [.ptr 7 0, .agg (ak aP)] s) ⟨.ret, [.int .u64 (Int.ofNat v)], s.set 7 (.cells false ((m.load aP).C (.map 8)))⟩ := fun s j7 j8 => hvv ▸ pload_at j7 j8 aP
  rw [hvv]
  have hq := aspq v hv
  have hA : cz (v % 8) ≤ 3 := cz_lt _
  have hB8 : v / 8 % 8 < 256 := by omega
  have hC8 : v / 64 % 8 < 256 := by omega
  have hN : v / 65536 % 281474976710656 < 281474976710656 := Nat.mod_lt _ (by omega)
  unfold SS.one
  generalize cz (v % 8) = a2 at hq hA ⊢
  generalize v / 8 % 8 = b2n at hq hB8 ⊢
  generalize v / 64 % 8 = c2 at hq hC8 ⊢
  generalize v / 65536 % 281474976710656 = n2n at hq hN ⊢
  obtain ⟨q1, q2, q3, q4, hq4⟩ : ∃ q1 q2 q3 q4, bg4 a2 b2n c2 n2n to = (q1, q2, q3, q4) := ⟨_, _, _, _, rfl⟩
  by_cases hm : mayP a2 b2n c2 = true
  · by_cases h3 : a2 = 3
    · by_cases ht : c2 = to
      · rw [if_pos (by rw [hm]; simp [h3, ht])]
        have hx := runX_sound mixed none_sound (x1_6 to xa xb xc xn w v 0 0 a2 b2n c2 n2n 0 0 0 0 q1 q2 q3 q4 lk (mlk lk) .nilPtr (.cells false (m.C (.map 8))) (.cells false ((m.load aP).C (.map 8))) (mapO m.ms) (mapO m.ms) o13 o15 o16 false 0 0 .nilPtr .nilPtr .nilPtr .nilPtr .nilPtr) ⟨hld _ rfl rfl, hq, mayPq a2 b2n c2 n2n true hA hm, qeq a2 3 true (by simp [h3]), qeq c2 to true (by simp [ht]), mlkq lk, trivial⟩
        have fin := mkX (m' := m.load aP) (xc := (⟨6, 4, v, wt, a2, b2n, c2, n2n, newB n2n lk⟩ : SS).X to lk (.func (.func 71) [] [.ptr 20 0, .ptr 21 0]) a2 b2n c2 n2n (.ptr 22 0)) (o13' := o13) (o15' := o15) (o16' := o16) k11 k7 k8 k13 k15 k16 kG h13 h15 h16 hx0 ([(22, .cells false ((newB n2n lk).PO 0)), (20, B11), (21, BF 57)] : List (Nat × AObj)) hx rfl rfl rfl rfl rfl rfl (fun x hx => by
              simp only [List.mem_cons, List.not_mem_nil, or_false] at hx
              rcases hx with rfl | rfl | rfl
              · exact ⟨show 17 ≤ 22 by decide, rfl, ⟨rfl, rfl⟩⟩
              · exact ⟨show 17 ≤ 20 by decide, rfl, lx11⟩
              · exact ⟨show 17 ≤ 21 by decide, rfl, lxF _⟩
              ) (show [22, 20, 21].Nodup by decide) rfl h13 h15 h16
        have fin := (show rens (pR 17 (List.map (fun x : Nat × AObj => x.1) ([(22, .cells false ((newB n2n lk).PO 0)), (20, B11), (21, BF 57)] : List (Nat × AObj))) (fun b => b) 17) ((⟨6, 4, v, wt, a2, b2n, c2, n2n, newB n2n lk⟩ : SS).X to lk (.func (.func 71) [] [.ptr 20 0, .ptr 21 0]) a2 b2n c2 n2n (.ptr 22 0)) = (⟨6, 4, v, wt, a2, b2n, c2, n2n, newB n2n lk⟩ : SS).X to lk (.func (.func 71) [] [.ptr 18 0, .ptr 19 0]) a2 b2n c2 n2n (.ptr 17 0) from rfl) ▸ fin
        exact ⟨(.func (.func 71) [] [.ptr 18 0, .ptr 19 0]), a2, b2n, c2, n2n, (.ptr 17 0), 17, 18, 19, o13, o15, o16, .cells false ((newB n2n lk).PO 0), B11, BF 57, by simp, by simp, by simp, by decide, h13, h15, h16, ⟨rfl, rfl⟩, lx11, lxF _, ⟨⟨rfl, rfl, rfl⟩, ⟨rfl, rfl, hwt⟩, fun _ => ⟨rfl, rfl, rfl, rfl⟩⟩, fin⟩
      · have he : (begP a2 b2n c2 n2n to).2 ≠ 0 := begP_ne (by omega)
        rw [if_neg (by simp [ht]), if_neg he]
        have hx := runX_sound mixed none_sound (x1_c to xa xb xc xn w v 0 (begP a2 b2n c2 n2n to).2 a2 b2n c2 n2n 0 0 0 0 q1 q2 q3 q4 lk (mlk lk) .nilPtr (.cells false (m.C (.map 8))) (.cells false ((m.load aP).C (.map 8))) (mapO m.ms) (mapO m.ms) o13 o15 o16 false 0 0 .nilPtr .nilPtr .nilPtr .nilPtr .nilPtr) ⟨hld _ rfl rfl, hq, mayPq a2 b2n c2 n2n true hA hm, qeq a2 3 true (by simp [h3]), qeq c2 to false (by simp [ht]), beginq hA hN hq4, qne _ 0 true (by simp [he]), trivial⟩
        have fin := mkX (m' := m.load aP) (xc := (⟨0, (begP a2 b2n c2 n2n to).2, v, wt, a2, b2n, c2, n2n, br⟩ : SS).X to lk .nilFunc xa xb xc xn .nilPtr) (o13' := o13) (o15' := o15) (o16' := o16) k11 k7 k8 k13 k15 k16 kG h13 h15 h16 hx0 ([] : List (Nat × AObj)) hx rfl rfl rfl rfl rfl rfl (fun x hx => by cases hx) (by decide) rfl h13 h15 h16
        have fin := (show rens (pR 17 (List.map (fun x : Nat × AObj => x.1) ([] : List (Nat × AObj))) (fun b => b) 17) ((⟨0, (begP a2 b2n c2 n2n to).2, v, wt, a2, b2n, c2, n2n, br⟩ : SS).X to lk .nilFunc xa xb xc xn .nilPtr) = (⟨0, (begP a2 b2n c2 n2n to).2, v, wt, a2, b2n, c2, n2n, br⟩ : SS).X to lk .nilFunc xa xb xc xn .nilPtr from rfl) ▸ fin
        exact ⟨.nilFunc, xa, xb, xc, xn, .nilPtr, 13, 15, 16, o13, o15, o16, (.cells false []), (.cells false []), (.cells false []), by simp, by simp, by simp, by decide, h13, h15, h16, hE, hE, hE, ⟨rfl, .inl ⟨rfl, hwt⟩, fun h => by cases h⟩, Sound.ghost (.cells false []) (Sound.ghost (.cells false []) (Sound.ghost (.cells false []) (fin)))⟩
    · by_cases he : (begP a2 b2n c2 n2n to).2 = 0
      · rw [if_neg (by simp [h3]), if_pos he]
        have hx := runX_sound mixed none_sound (x1_2 to xa xb xc xn w v 0 (begP a2 b2n c2 n2n to).2 a2 b2n c2 n2n 0 0 0 0 q1 q2 q3 q4 lk (mlk lk) .nilPtr (.cells false (m.C (.map 8))) (.cells false ((m.load aP).C (.map 8))) (mapO m.ms) (mapO m.ms) o13 o15 o16 false 0 0 .nilPtr .nilPtr .nilPtr .nilPtr .nilPtr) ⟨hld _ rfl rfl, hq, mayPq a2 b2n c2 n2n true hA hm, qeq a2 3 false (by simp [h3]), beginq hA hN hq4, qne _ 0 false (by simp [he]), trivial⟩
        have hqb : AObj.cells false (phC q1 q2 q3 q4) = .cells false (begP a2 b2n c2 n2n to).1 := by rw [bg4_C, hq4]
        have fin := mkX (m' := m.load aP) (xc := (⟨2, 4, v, wt, a2, b2n, c2, n2n, br⟩ : SS).X to lk (.func (.func 60) [] [.ptr 17 0, .ptr 20 0]) xa xb xc xn .nilPtr) (o13' := o13) (o15' := o15) (o16' := o16) k11 k7 k8 k13 k15 k16 kG h13 h15 h16 hx0 ([(19, .cells false (phC a2 b2n c2 n2n)), (17, B11), (20, .cells false (phC q1 q2 q3 q4))] : List (Nat × AObj)) hx rfl rfl rfl rfl rfl rfl (fun x hx => by
              simp only [List.mem_cons, List.not_mem_nil, or_false] at hx
              rcases hx with rfl | rfl | rfl
              · exact ⟨show 17 ≤ 19 by decide, rfl, ⟨rfl, rfl⟩⟩
              · exact ⟨show 17 ≤ 17 by decide, rfl, lx11⟩
              · exact ⟨show 17 ≤ 20 by decide, rfl, ⟨rfl, rfl⟩⟩
              ) (show [19, 17, 20].Nodup by decide) rfl h13 h15 h16
        have fin := (show rens (pR 17 (List.map (fun x : Nat × AObj => x.1) ([(19, .cells false (phC a2 b2n c2 n2n)), (17, B11), (20, .cells false (phC q1 q2 q3 q4))] : List (Nat × AObj))) (fun b => b) 17) ((⟨2, 4, v, wt, a2, b2n, c2, n2n, br⟩ : SS).X to lk (.func (.func 60) [] [.ptr 17 0, .ptr 20 0]) xa xb xc xn .nilPtr) = (⟨2, 4, v, wt, a2, b2n, c2, n2n, br⟩ : SS).X to lk (.func (.func 60) [] [.ptr 18 0, .ptr 19 0]) xa xb xc xn .nilPtr from rfl) ▸ fin
        exact ⟨(.func (.func 60) [] [.ptr 18 0, .ptr 19 0]), xa, xb, xc, xn, .nilPtr, 13, 18, 19, o13, o15, o16, .cells false (phC a2 b2n c2 n2n), B11, .cells false (phC q1 q2 q3 q4), by simp, by simp, by simp, by decide, h13, h15, h16, ⟨rfl, rfl⟩, lx11, ⟨rfl, rfl⟩, ⟨⟨rfl, rfl, hqb⟩, .inl ⟨rfl, hwt⟩, fun h => absurd h (show ¬ 3 ≤ 2 by decide)⟩, fin⟩
      · rw [if_neg (by simp [h3]), if_neg he]
        have hx := runX_sound mixed none_sound (x1_b to xa xb xc xn w v 0 (begP a2 b2n c2 n2n to).2 a2 b2n c2 n2n 0 0 0 0 q1 q2 q3 q4 lk (mlk lk) .nilPtr (.cells false (m.C (.map 8))) (.cells false ((m.load aP).C (.map 8))) (mapO m.ms) (mapO m.ms) o13 o15 o16 false 0 0 .nilPtr .nilPtr .nilPtr .nilPtr .nilPtr) ⟨hld _ rfl rfl, hq, mayPq a2 b2n c2 n2n true hA hm, qeq a2 3 false (by simp [h3]), beginq hA hN hq4, qne _ 0 true (by simp [he]), trivial⟩
        have fin := mkX (m' := m.load aP) (xc := (⟨0, (begP a2 b2n c2 n2n to).2, v, wt, a2, b2n, c2, n2n, br⟩ : SS).X to lk .nilFunc xa xb xc xn .nilPtr) (o13' := o13) (o15' := o15) (o16' := o16) k11 k7 k8 k13 k15 k16 kG h13 h15 h16 hx0 ([] : List (Nat × AObj)) hx rfl rfl rfl rfl rfl rfl (fun x hx => by cases hx) (by decide) rfl h13 h15 h16
        have fin := (show rens (pR 17 (List.map (fun x : Nat × AObj => x.1) ([] : List (Nat × AObj))) (fun b => b) 17) ((⟨0, (begP a2 b2n c2 n2n to).2, v, wt, a2, b2n, c2, n2n, br⟩ : SS).X to lk .nilFunc xa xb xc xn .nilPtr) = (⟨0, (begP a2 b2n c2 n2n to).2, v, wt, a2, b2n, c2, n2n, br⟩ : SS).X to lk .nilFunc xa xb xc xn .nilPtr from rfl) ▸ fin
        exact ⟨.nilFunc, xa, xb, xc, xn, .nilPtr, 13, 15, 16, o13, o15, o16, (.cells false []), (.cells false []), (.cells false []), by simp, by simp, by simp, by decide, h13, h15, h16, hE, hE, hE, ⟨rfl, .inl ⟨rfl, hwt⟩, fun h => by cases h⟩, Sound.ghost (.cells false []) (Sound.ghost (.cells false []) (Sound.ghost (.cells false []) (fin)))⟩
  · have hm0 : mayP a2 b2n c2 = false := by simpa using hm
    have he : (begP a2 b2n c2 n2n to).2 ≠ 0 := begP_may hm0
    rw [if_neg (by simp [hm0]), if_neg he]
    have hx := runX_sound mixed none_sound (x1_a to xa xb xc xn w v 0 (begP a2 b2n c2 n2n to).2 a2 b2n c2 n2n 0 0 0 0 q1 q2 q3 q4 lk (mlk lk) .nilPtr (.cells false (m.C (.map 8))) (.cells false ((m.load aP).C (.map 8))) (mapO m.ms) (mapO m.ms) o13 o15 o16 false 0 0 .nilPtr .nilPtr .nilPtr .nilPtr .nilPtr) ⟨hld _ rfl rfl, hq, mayPq a2 b2n c2 n2n false hA hm0, beginq hA hN hq4, qne _ 0 true (by simp [he]), trivial⟩
    have fin := mkX (m' := m.load aP) (xc := (⟨0, (begP a2 b2n c2 n2n to).2, v, wt, a2, b2n, c2, n2n, br⟩ : SS).X to lk .nilFunc xa xb xc xn .nilPtr) (o13' := o13) (o15' := o15) (o16' := o16) k11 k7 k8 k13 k15 k16 kG h13 h15 h16 hx0 ([] : List (Nat × AObj)) hx rfl rfl rfl rfl rfl rfl (fun x hx => by cases hx) (by decide) rfl h13 h15 h16
    have fin := (show rens (pR 17 (List.map (fun x : Nat × AObj => x.1) ([] : List (Nat × AObj))) (fun b => b) 17) ((⟨0, (begP a2 b2n c2 n2n to).2, v, wt, a2, b2n, c2, n2n, br⟩ : SS).X to lk .nilFunc xa xb xc xn .nilPtr) = (⟨0, (begP a2 b2n c2 n2n to).2, v, wt, a2, b2n, c2, n2n, br⟩ : SS).X to lk .nilFunc xa xb xc xn .nilPtr from rfl) ▸ fin
    exact ⟨.nilFunc, xa, xb, xc, xn, .nilPtr, 13, 15, 16, o13, o15, o16, (.cells false []), (.cells false []), (.cells false []), by simp, by simp, by simp, by decide, h13, h15, h16, hE, hE, hE, ⟨rfl, .inl ⟨rfl, hwt⟩, fun h => by cases h⟩, Sound.ghost (.cells false []) (Sound.ghost (.cells false []) (Sound.ghost (.cells false []) (fin)))⟩
theorem X_3 (hO : SS.Ok ⟨3, 4, w, wt, a, b, c, n, br⟩ to lk) (k11 : AS.get ⟨h, 17⟩ 11 = some (.cells false (SS.X ⟨3, 4, w, wt, a, b, c, n, br⟩ to lk nxt xa xb xc xn bpx))) (k7 : AS.get ⟨h, 17⟩ 7 = some (.cells false (m.C (.map 8)))) (k8 : AS.get ⟨h, 17⟩ 8 = some (mapO m.ms)) (k13 : AS.get ⟨h, 17⟩ 13 = some o13) (k15 : AS.get ⟨h, 17⟩ 15 = some o15) (k16 : AS.get ⟨h, 17⟩ 16 = some o16)
    (kG : ∀ x ∈ GF, ∃ ro, AS.get ⟨h, 17⟩ x.1 = some (.cells ro x.2)) (h13 : Lx o13) (h15 : Lx o15) (h16 : Lx o16) (hX : XS ⟨3, 4, w, wt, a, b, c, n, br⟩ to 13 15 16 nxt xa xb xc xn bpx (O6 o13 o15 o16 d1 d2 d3)) (hmv : ∀ a, getW m.ms a < 18446744073709551616) :
    XC to lk h (SS.step ⟨3, 4, w, wt, a, b, c, n, br⟩ to lk m) := by
  have ha : a ≤ 3 := hO.a
  have hb : b < 256 := hO.b
  have hc : c < 256 := hO.c
  have hn : n < 281474976710656 := hO.n
  have hto : to < 256 := hO.to
  have hE : Lx (.cells false []) := ⟨rfl, rfl⟩
  obtain ⟨rfl, t13, hwt⟩ := wx_live hX.wx rfl
  have e13 : o13 = .cells false (br.PO 0) := t13
  obtain ⟨rfl, t15, t16⟩ := hX.nx
  have e15 : o15 = B11 := t15
  have e16 : o16 = BF 62 := t16
  obtain ⟨rfl, rfl, rfl, rfl⟩ := hX.px (show (3 : Nat) ≤ 3 by decide)
  clear t13 t15 t16 hX
  subst e13
  subst e15
  subst e16
  have hB : br.Ok := hO.br rfl
  have hbar := fun (s : AS) (j13 : s.get 13 = some (.cells false (br.PO 0))) (j7 : s.get 7 = some (.cells false (m.C (.map 8)))) (j8 : s.get 8 = some (mapO m.ms)) (j1 : s.get 1 = some (.cells true wfB)) => barP_at hB (hmv br.adr) j13 j7 j8 j1
  show XC to lk h (SS.bar ⟨3, 4, w, wt, xa, xb, xc, xn, br⟩ (br.step (getW m.ms br.adr)), m.load br.adr)
  have hx0 : namess (fun b => Nat.blt b 17) (SS.X ⟨3, 4, w, wt, xa, xb, xc, xn, br⟩ to lk (.func (.func 71) [] [.ptr 15 0, .ptr 16 0]) xa xb xc xn (.ptr 13 0)) = true := rfl
  have hk := step_k br (getW m.ms br.adr)
  have hw1 := step_wt br (getW m.ms br.adr)
  obtain ⟨b', k, hbk⟩ : ∃ b' k, br.step (getW m.ms br.adr) = (b', k) := ⟨_, _, rfl⟩
  rw [hbk] at hk hw1 ⊢
  simp only [hbk] at hbar
  have hk : k = 0 ∨ k = 1 ∨ k = 2 := hk
  have hw1 : k = 1 → b'.wt = -1 := hw1
  rcases hk with rfl | rfl | rfl
  · have hx := runX_sound mixed none_sound (x3_c to xa xb xc xn w 0 0 0 0 0 0 0 0 0 0 0 0 0 0 0 lk 0 .nilPtr (.cells false (m.C (.map 8))) (.cells false ((m.load br.adr).C (.map 8))) (mapO m.ms) (mapO m.ms) (.cells false (br.PO 0)) B11 (BF 62) false b'.wt (Int.ofNat 0) (.int .u64 (Int.ofNat b'.num)) (.int .i64 (mlk b'.lk)) (.int .i64 (Int.ofNat b'.th)) (.int .i64 (Int.ofNat b'.all)) (.int .i64 (Int.ofNat b'.at_ - 1))) ⟨hbar _ rfl rfl rfl rfl, trivial⟩
    have fin := mkX (m' := m.load br.adr) (xc := (⟨3, 4, w, b'.wt, xa, xb, xc, xn, b'⟩ : SS).X to lk (.func (.func 71) [] [.ptr 15 0, .ptr 16 0]) xa xb xc xn (.ptr 13 0)) (o13' := (.cells false (b'.PO 0))) (o15' := B11) (o16' := (BF 62)) k11 k7 k8 k13 k15 k16 kG h13 h15 h16 hx0 ([] : List (Nat × AObj)) hx rfl rfl rfl rfl rfl rfl (fun x hx => by cases hx) (by decide) rfl ⟨rfl, rfl⟩ lx11 (lxF _)
    have fin := (show rens (pR 17 (List.map (fun x : Nat × AObj => x.1) ([] : List (Nat × AObj))) (fun b => b) 17) ((⟨3, 4, w, b'.wt, xa, xb, xc, xn, b'⟩ : SS).X to lk (.func (.func 71) [] [.ptr 15 0, .ptr 16 0]) xa xb xc xn (.ptr 13 0)) = (⟨3, 4, w, b'.wt, xa, xb, xc, xn, b'⟩ : SS).X to lk (.func (.func 71) [] [.ptr 15 0, .ptr 16 0]) xa xb xc xn (.ptr 13 0) from rfl) ▸ fin
    exact ⟨(.func (.func 71) [] [.ptr 15 0, .ptr 16 0]), xa, xb, xc, xn, (.ptr 13 0), 13, 15, 16, (.cells false (b'.PO 0)), B11, (BF 62), (.cells false []), (.cells false []), (.cells false []), by simp, by simp, by simp, by decide, ⟨rfl, rfl⟩, lx11, (lxF _), hE, hE, hE, ⟨⟨rfl, rfl, rfl⟩, ⟨rfl, rfl, rfl⟩, fun _ => ⟨rfl, rfl, rfl, rfl⟩⟩, Sound.ghost (.cells false []) (Sound.ghost (.cells false []) (Sound.ghost (.cells false []) (fin)))⟩
  · have hx := runX_sound mixed none_sound (x3_o to xa xb xc xn w 0 0 0 0 0 0 0 0 0 0 0 0 0 0 0 lk 0 .nilPtr (.cells false (m.C (.map 8))) (.cells false ((m.load br.adr).C (.map 8))) (mapO m.ms) (mapO m.ms) (.cells false (br.PO 0)) B11 (BF 62) false b'.wt (Int.ofNat 0) (.int .u64 (Int.ofNat b'.num)) (.int .i64 (mlk b'.lk)) (.int .i64 (Int.ofNat b'.th)) (.int .i64 (Int.ofNat b'.all)) (.int .i64 (Int.ofNat 0))) ⟨hbar _ rfl rfl rfl rfl, by simp [Qst.ok], by simp [Qst.ok], trivial⟩
    have fin := mkX (m' := m.load br.adr) (xc := (⟨4, 4, w, b'.wt, xa, xb, xc, xn, b'⟩ : SS).X to lk (.func (.func 78) [] [.ptr 17 0]) xa xb xc xn .nilPtr) (o13' := (.cells false (b'.PO 1))) (o15' := B11) (o16' := (BF 62)) k11 k7 k8 k13 k15 k16 kG h13 h15 h16 hx0 ([(17, B11)] : List (Nat × AObj)) hx rfl rfl rfl rfl rfl rfl (fun x hx => by
          simp only [List.mem_cons, List.not_mem_nil, or_false] at hx
          rcases hx with rfl
          · exact ⟨show 17 ≤ 17 by decide, rfl, lx11⟩
          ) (show [17].Nodup by decide) rfl ⟨rfl, rfl⟩ lx11 (lxF _)
    have fin := (show rens (pR 17 (List.map (fun x : Nat × AObj => x.1) ([(17, B11)] : List (Nat × AObj))) (fun b => b) 17) ((⟨4, 4, w, b'.wt, xa, xb, xc, xn, b'⟩ : SS).X to lk (.func (.func 78) [] [.ptr 17 0]) xa xb xc xn .nilPtr) = (⟨4, 4, w, b'.wt, xa, xb, xc, xn, b'⟩ : SS).X to lk (.func (.func 78) [] [.ptr 17 0]) xa xb xc xn .nilPtr from rfl) ▸ fin
    exact ⟨(.func (.func 78) [] [.ptr 17 0]), xa, xb, xc, xn, .nilPtr, 13, 17, 16, (.cells false (b'.PO 1)), B11, (BF 62), B11, (.cells false []), (.cells false []), by simp, by simp, by simp, by decide, ⟨rfl, rfl⟩, lx11, (lxF _), lx11, hE, hE, ⟨⟨rfl, rfl⟩, .inl ⟨rfl, hw1 rfl⟩, fun _ => ⟨rfl, rfl, rfl, rfl⟩⟩, Sound.ghost (.cells false []) (Sound.ghost (.cells false []) (fin))⟩
  · have hx := runX_sound mixed none_sound (x3_g to xa xb xc xn w 0 0 0 0 0 0 0 0 0 0 0 0 0 0 0 lk 0 .nilPtr (.cells false (m.C (.map 8))) (.cells false ((m.load br.adr).C (.map 8))) (mapO m.ms) (mapO m.ms) (.cells false (br.PO 0)) B11 (BF 62) false b'.wt (Int.ofNat 9) (.int .u64 (Int.ofNat b'.num)) (.int .i64 (Int.ofNat 0)) (.int .i64 (Int.ofNat b'.th)) (.int .i64 (Int.ofNat b'.all)) (.int .i64 (Int.ofNat 0))) ⟨hbar _ rfl rfl rfl rfl, by simp [Qst.ok], by simp [Qst.ok], trivial⟩
    have fin := mkX (m' := m.load br.adr) (xc := (⟨8, 4, w, b'.wt, xa, xb, xc, xn, b'⟩ : SS).X to lk (.func (.func 77) [.ptr 11 0] []) xa xb xc xn (.ptr 13 0)) (o13' := (.cells false (b'.PO 2))) (o15' := B11) (o16' := (BF 62)) k11 k7 k8 k13 k15 k16 kG h13 h15 h16 hx0 ([] : List (Nat × AObj)) hx rfl rfl rfl rfl rfl rfl (fun x hx => by cases hx) (by decide) rfl ⟨rfl, rfl⟩ lx11 (lxF _)
    have fin := (show rens (pR 17 (List.map (fun x : Nat × AObj => x.1) ([] : List (Nat × AObj))) (fun b => b) 17) ((⟨8, 4, w, b'.wt, xa, xb, xc, xn, b'⟩ : SS).X to lk (.func (.func 77) [.ptr 11 0] []) xa xb xc xn (.ptr 13 0)) = (⟨8, 4, w, b'.wt, xa, xb, xc, xn, b'⟩ : SS).X to lk (.func (.func 77) [.ptr 11 0] []) xa xb xc xn (.ptr 13 0) from rfl) ▸ fin
    exact ⟨(.func (.func 77) [.ptr 11 0] []), xa, xb, xc, xn, (.ptr 13 0), 13, 15, 16, (.cells false (b'.PO 2)), B11, (BF 62), (.cells false []), (.cells false []), (.cells false []), by simp, by simp, by simp, by decide, ⟨rfl, rfl⟩, lx11, (lxF _), hE, hE, hE, ⟨rfl, (.inr ⟨.inr rfl, rfl, b', rfl, rfl⟩), fun _ => ⟨rfl, rfl, rfl, rfl⟩⟩, Sound.ghost (.cells false []) (Sound.ghost (.cells false []) (Sound.ghost (.cells false []) (fin)))⟩
theorem X_6 (hO : SS.Ok ⟨6, 4, w, wt, a, b, c, n, br⟩ to lk) (k11 : AS.get ⟨h, 17⟩ 11 = some (.cells false (SS.X ⟨6, 4, w, wt, a, b, c, n, br⟩ to lk nxt xa xb xc xn bpx))) (k7 : AS.get ⟨h, 17⟩ 7 = some (.cells false (m.C (.map 8)))) (k8 : AS.get ⟨h, 17⟩ 8 = some (mapO m.ms)) (k13 : AS.get ⟨h, 17⟩ 13 = some o13) (k15 : AS.get ⟨h, 17⟩ 15 = some o15) (k16 : AS.get ⟨h, 17⟩ 16 = some o16)
    (kG : ∀ x ∈ GF, ∃ ro, AS.get ⟨h, 17⟩ x.1 = some (.cells ro x.2)) (h13 : Lx o13) (h15 : Lx o15) (h16 : Lx o16) (hX : XS ⟨6, 4, w, wt, a, b, c, n, br⟩ to 13 15 16 nxt xa xb xc xn bpx (O6 o13 o15 o16 d1 d2 d3)) (hmv : ∀ a, getW m.ms a < 18446744073709551616) :
    XC to lk h (SS.step ⟨6, 4, w, wt, a, b, c, n, br⟩ to lk m) := by
  have ha : a ≤ 3 := hO.a
  have hb : b < 256 := hO.b
  have hc : c < 256 := hO.c
  have hn : n < 281474976710656 := hO.n
  have hto : to < 256 := hO.to
  have hE : Lx (.cells false []) := ⟨rfl, rfl⟩
  obtain ⟨rfl, t13, hwt⟩ := wx_live hX.wx rfl
  have e13 : o13 = .cells false (br.PO 0) := t13
  obtain ⟨rfl, t15, t16⟩ := hX.nx
  have e15 : o15 = B11 := t15
  have e16 : o16 = BF 57 := t16
  obtain ⟨rfl, rfl, rfl, rfl⟩ := hX.px (show (3 : Nat) ≤ 6 by decide)
  clear t13 t15 t16 hX
  subst e13
  subst e15
  subst e16
  have hB : br.Ok := hO.br rfl
  have hbar := fun (s : AS) (j13 : s.get 13 = some (.cells false (br.PO 0))) (j7 : s.get 7 = some (.cells false (m.C (.map 8)))) (j8 : s.get 8 = some (mapO m.ms)) (j1 : s.get 1 = some (.cells true wfB)) => barP_at hB (hmv br.adr) j13 j7 j8 j1
  show XC to lk h (SS.bar ⟨6, 4, w, wt, xa, xb, xc, xn, br⟩ (br.step (getW m.ms br.adr)), m.load br.adr)
  have hx0 : namess (fun b => Nat.blt b 17) (SS.X ⟨6, 4, w, wt, xa, xb, xc, xn, br⟩ to lk (.func (.func 71) [] [.ptr 15 0, .ptr 16 0]) xa xb xc xn (.ptr 13 0)) = true := rfl
  have hk := step_k br (getW m.ms br.adr)
  have hw1 := step_wt br (getW m.ms br.adr)
  obtain ⟨b', k, hbk⟩ : ∃ b' k, br.step (getW m.ms br.adr) = (b', k) := ⟨_, _, rfl⟩
  rw [hbk] at hk hw1 ⊢
  simp only [hbk] at hbar
  have hk : k = 0 ∨ k = 1 ∨ k = 2 := hk
  have hw1 : k = 1 → b'.wt = -1 := hw1
  rcases hk with rfl | rfl | rfl
  · have hx := runX_sound mixed none_sound (x6_c to xa xb xc xn w 0 0 0 0 0 0 0 0 0 0 0 0 0 0 0 lk 0 .nilPtr (.cells false (m.C (.map 8))) (.cells false ((m.load br.adr).C (.map 8))) (mapO m.ms) (mapO m.ms) (.cells false (br.PO 0)) B11 (BF 57) false b'.wt (Int.ofNat 0) (.int .u64 (Int.ofNat b'.num)) (.int .i64 (mlk b'.lk)) (.int .i64 (Int.ofNat b'.th)) (.int .i64 (Int.ofNat b'.all)) (.int .i64 (Int.ofNat b'.at_ - 1))) ⟨hbar _ rfl rfl rfl rfl, trivial⟩
    have fin := mkX (m' := m.load br.adr) (xc := (⟨6, 4, w, b'.wt, xa, xb, xc, xn, b'⟩ : SS).X to lk (.func (.func 71) [] [.ptr 15 0, .ptr 16 0]) xa xb xc xn (.ptr 13 0)) (o13' := (.cells false (b'.PO 0))) (o15' := B11) (o16' := (BF 57)) k11 k7 k8 k13 k15 k16 kG h13 h15 h16 hx0 ([] : List (Nat × AObj)) hx rfl rfl rfl rfl rfl rfl (fun x hx => by cases hx) (by decide) rfl ⟨rfl, rfl⟩ lx11 (lxF _)
    have fin := (show rens (pR 17 (List.map (fun x : Nat × AObj => x.1) ([] : List (Nat × AObj))) (fun b => b) 17) ((⟨6, 4, w, b'.wt, xa, xb, xc, xn, b'⟩ : SS).X to lk (.func (.func 71) [] [.ptr 15 0, .ptr 16 0]) xa xb xc xn (.ptr 13 0)) = (⟨6, 4, w, b'.wt, xa, xb, xc, xn, b'⟩ : SS).X to lk (.func (.func 71) [] [.ptr 15 0, .ptr 16 0]) xa xb xc xn (.ptr 13 0) from rfl) ▸ fin
    exact ⟨(.func (.func 71) [] [.ptr 15 0, .ptr 16 0]), xa, xb, xc, xn, (.ptr 13 0), 13, 15, 16, (.cells false (b'.PO 0)), B11, (BF 57), (.cells false []), (.cells false []), (.cells false []), by simp, by simp, by simp, by decide, ⟨rfl, rfl⟩, lx11, (lxF _), hE, hE, hE, ⟨⟨rfl, rfl, rfl⟩, ⟨rfl, rfl, rfl⟩, fun _ => ⟨rfl, rfl, rfl, rfl⟩⟩, Sound.ghost (.cells false []) (Sound.ghost (.cells false []) (Sound.ghost (.cells false []) (fin)))⟩
  · have hx := runX_sound mixed none_sound (x6_o to xa xb xc xn w 0 0 0 0 0 0 0 0 0 0 0 0 0 0 0 lk 0 .nilPtr (.cells false (m.C (.map 8))) (.cells false ((m.load br.adr).C (.map 8))) (mapO m.ms) (mapO m.ms) (.cells false (br.PO 0)) B11 (BF 57) false b'.wt (Int.ofNat 0) (.int .u64 (Int.ofNat b'.num)) (.int .i64 (mlk b'.lk)) (.int .i64 (Int.ofNat b'.th)) (.int .i64 (Int.ofNat b'.all)) (.int .i64 (Int.ofNat 0))) ⟨hbar _ rfl rfl rfl rfl, by simp [Qst.ok], by simp [Qst.ok], trivial⟩
    have fin := mkX (m' := m.load br.adr) (xc := (⟨7, 4, w, b'.wt, xa, xb, xc, xn, b'⟩ : SS).X to lk (.func (.func 74) [] [.ptr 17 0]) xa xb xc xn .nilPtr) (o13' := (.cells false (b'.PO 1))) (o15' := B11) (o16' := (BF 57)) k11 k7 k8 k13 k15 k16 kG h13 h15 h16 hx0 ([(17, B11)] : List (Nat × AObj)) hx rfl rfl rfl rfl rfl rfl (fun x hx => by
          simp only [List.mem_cons, List.not_mem_nil, or_false] at hx
          rcases hx with rfl
          · exact ⟨show 17 ≤ 17 by decide, rfl, lx11⟩
          ) (show [17].Nodup by decide) rfl ⟨rfl, rfl⟩ lx11 (lxF _)
    have fin := (show rens (pR 17 (List.map (fun x : Nat × AObj => x.1) ([(17, B11)] : List (Nat × AObj))) (fun b => b) 17) ((⟨7, 4, w, b'.wt, xa, xb, xc, xn, b'⟩ : SS).X to lk (.func (.func 74) [] [.ptr 17 0]) xa xb xc xn .nilPtr) = (⟨7, 4, w, b'.wt, xa, xb, xc, xn, b'⟩ : SS).X to lk (.func (.func 74) [] [.ptr 17 0]) xa xb xc xn .nilPtr from rfl) ▸ fin
    exact ⟨(.func (.func 74) [] [.ptr 17 0]), xa, xb, xc, xn, .nilPtr, 13, 17, 16, (.cells false (b'.PO 1)), B11, (BF 57), B11, (.cells false []), (.cells false []), by simp, by simp, by simp, by decide, ⟨rfl, rfl⟩, lx11, (lxF _), lx11, hE, hE, ⟨⟨rfl, rfl⟩, .inl ⟨rfl, hw1 rfl⟩, fun _ => ⟨rfl, rfl, rfl, rfl⟩⟩, Sound.ghost (.cells false []) (Sound.ghost (.cells false []) (fin))⟩
  · have hx := runX_sound mixed none_sound (x6_g to xa xb xc xn w 0 0 0 0 0 0 0 0 0 0 0 0 0 0 0 lk 0 .nilPtr (.cells false (m.C (.map 8))) (.cells false ((m.load br.adr).C (.map 8))) (mapO m.ms) (mapO m.ms) (.cells false (br.PO 0)) B11 (BF 57) false b'.wt (Int.ofNat 9) (.int .u64 (Int.ofNat b'.num)) (.int .i64 (Int.ofNat 0)) (.int .i64 (Int.ofNat b'.th)) (.int .i64 (Int.ofNat b'.all)) (.int .i64 (Int.ofNat 0))) ⟨hbar _ rfl rfl rfl rfl, by simp [Qst.ok], by simp [Qst.ok], trivial⟩
    have fin := mkX (m' := m.load br.adr) (xc := (⟨0, 9, w, b'.wt, xa, xb, xc, xn, b'⟩ : SS).X to lk .nilFunc xa xb xc xn (.ptr 13 0)) (o13' := (.cells false (b'.PO 2))) (o15' := B11) (o16' := (BF 57)) k11 k7 k8 k13 k15 k16 kG h13 h15 h16 hx0 ([] : List (Nat × AObj)) hx rfl rfl rfl rfl rfl rfl (fun x hx => by cases hx) (by decide) rfl ⟨rfl, rfl⟩ lx11 (lxF _)
    have fin := (show rens (pR 17 (List.map (fun x : Nat × AObj => x.1) ([] : List (Nat × AObj))) (fun b => b) 17) ((⟨0, 9, w, b'.wt, xa, xb, xc, xn, b'⟩ : SS).X to lk .nilFunc xa xb xc xn (.ptr 13 0)) = (⟨0, 9, w, b'.wt, xa, xb, xc, xn, b'⟩ : SS).X to lk .nilFunc xa xb xc xn (.ptr 13 0) from rfl) ▸ fin
    exact ⟨.nilFunc, xa, xb, xc, xn, (.ptr 13 0), 13, 15, 16, (.cells false (b'.PO 2)), B11, (BF 57), (.cells false []), (.cells false []), (.cells false []), by simp, by simp, by simp, by decide, ⟨rfl, rfl⟩, lx11, (lxF _), hE, hE, hE, ⟨rfl, (.inr ⟨.inl rfl, rfl, b', rfl, rfl⟩), fun h => by cases h⟩, Sound.ghost (.cells false []) (Sound.ghost (.cells false []) (Sound.ghost (.cells false []) (fin)))⟩
end
end Go.Proofs.YtcnfblibfndepaaGreatDoor.ctlsCover
namespace Go.Proofs.YtcnfblibfndepaaGreatDoor.ctlsCover
open Go Go.Mini
/-! ### the plain Switch: its states stay sound, and it ends in time -/
theorem get_put (a v : _) : ∀ (ms : MS) (a' : A3), getW (putW ms a v) a' = if a' = a then v else getW ms a'
  | [], a' => by
    simp only [putW, getW]
  | x :: t, a' => by
    simp only [putW]
    by_cases h : a = x.1
    · simp only [if_pos h, getW]
      by_cases h2 : a' = a
      · simp [h2]
      · have : ¬ a' = x.1 := fun e => h2 (e.trans h.symm)
        simp [h2, this]
    · simp only [if_neg h, getW]
      by_cases h2 : a' = x.1
      · have : ¬ a' = a := fun e => h (e.symm.trans h2)
        simp [h2]
        intro e
        exact absurd e.symm h
      · simp only [if_neg h2]
        exact get_put a v t a'
structure PM.Ok (m : PM) (k : Nat) : Prop where
  val : ∀ a, getW m.ms a < 18446744073709551616
  len : m.ms.length ≤ k
theorem PM.Ok.load {m : PM} {k : Nat} (h : m.Ok k) (a : A3) : (m.load a).Ok k := ⟨h.val, h.len⟩
theorem PM.Ok.put {m : PM} {k : Nat} (h : m.Ok k) (a : A3) {v : Nat} (hv : v < 18446744073709551616) (a' : A3) : getW (putW m.ms a v) a' < 18446744073709551616 := by
  rw [get_put]
  split
  · exact hv
  · exact h.val a'
theorem put_len1 (ms : MS) (a : A3) (v : Nat) : (putW ms a v).length ≤ ms.length + 1 := by
  rw [put_len]
  split <;> omega
theorem PM.Ok.cas {m : PM} {k : Nat} (h : m.Ok k) (a : A3) (w : Nat) {v : Nat} (hv : v < 18446744073709551616) : (m.cas a w v).Ok (k + 1) := by
  have := h.len
  have h2 := put_len1 m.ms a v
  unfold PM.cas
  split
  · exact ⟨h.put a hv, by show (putW m.ms a v).length ≤ _; omega⟩
  · exact ⟨h.val, by show m.ms.length ≤ _; omega⟩
theorem PM.Ok.store {m : PM} {k : Nat} (h : m.Ok k) (a : A3) {v : Nat} (hv : v < 18446744073709551616) : (m.store a v).Ok (k + 1) := by
  have := h.len
  have h2 := put_len1 m.ms a v
  unfold PM.store
  split
  · exact ⟨h.put a hv, by show (putW m.ms a v).length ≤ _; omega⟩
  · exact ⟨h.val, by show m.ms.length ≤ _; omega⟩
theorem PM.Ok.mono {m : PM} {k l : Nat} (h : m.Ok k) (hl : k ≤ l) : m.Ok l := ⟨h.val, Nat.le_trans h.len hl⟩
theorem ofp_lt (a b c n : Nat) : ofp a b c n < 18446744073709551616 := by
  have := cz_lt a
  unfold ofp
  omega
theorem newB_ok {n : Nat} {lk : Int} (hn : n < 281474976710656) (h0 : -9223372036854775808 ≤ lk) (h1 : lk ≤ 40) : (newB n lk).Ok :=
  ⟨hn, Nat.zero_le _, h0, h1, Nat.zero_le _, fun _ => ⟨rfl, rfl, rfl⟩, fun h => absurd rfl h⟩
theorem step_ok {b : Br} (h : b.Ok) (v : Nat) (h0 : (b.step v).2 = 0) : (b.step v).1.Ok := by
  obtain ⟨num, lk, th, all, at_, wt⟩ := b
  obtain ⟨h1, h2, h3, h4, h5, h6, h7⟩ := h
  simp only at h1 h2 h3 h4 h5 h6 h7
  unfold Br.step at h0 ⊢
  simp only at h0 ⊢
  split at h0
  · rename_i e0
    rw [if_pos e0]
    split at h0
    · cases h0
    · rename_i hv
      rw [if_neg hv]
      refine ⟨h1, by show 1 ≤ 4; omega, h3, h4, ?_, (fun h => by cases h), fun _ => ?_⟩
      · show 4 * (if 4 < v then 4 else v) ≤ 16
        split <;> omega
      · show 0 < 4 * (if 4 < v then 4 else v)
        split <;> omega
  · rename_i e0
    rw [if_neg e0]
    have hth := h7 e0
    split at h0
    · rename_i hp
      rw [if_pos hp]
      simp only at h0
      split at h0
      · cases h0
      · rename_i hne
        exact ⟨h1, by show 1 ≤ 4; omega, h3, h4, h5, (fun h => by cases h), fun _ => by show th + 1 < all; omega⟩
    · rename_i hp
      rw [if_neg hp]
      split at h0
      · rename_i h4'
        rw [if_pos h4']
        split at h0
        · cases h0
        · rename_i hl
          rw [if_neg hl]
          exact ⟨h1, by show 1 ≤ 4; omega, by show -9223372036854775808 ≤ lk - 1; omega, by show lk - 1 ≤ 40; omega, h5, (fun h => by cases h), fun _ => hth⟩
      · rename_i h4'
        rw [if_neg h4']
        exact ⟨h1, by show at_ + 1 ≤ 4; omega, h3, h4, h5, (fun h => by cases h), fun _ => hth⟩
def Br.mu (b : Br) : Nat := 4 * (16 - b.th) + 4 * (mlk b.lk).toNat + (4 - b.at_)
def SS.mu (σ : SS) : Nat := match σ.ln with
  | 0 => 0
  | 1 => 463
  | 2 => 462
  | 3 => 233 + σ.br.mu
  | 4 => 232
  | 5 => 231
  | 6 => 2 + σ.br.mu
  | _ => 1
theorem bar_ok (L : Nat) (hL : L ≤ 7) {w a b c n : Nat} {wt : Int} {br : Br} {m : PM} {to : Nat} {lk : Int} (hO : SS.Ok ⟨L, 4, w, wt, a, b, c, n, br⟩ to lk) (hlv : SS.live ⟨L, 4, w, wt, a, b, c, n, br⟩ = true) (h0 : (SS.bar ⟨L, 4, w, wt, a, b, c, n, br⟩ (br.step (getW m.ms br.adr))).ln ≠ 0) : (SS.bar ⟨L, 4, w, wt, a, b, c, n, br⟩ (br.step (getW m.ms br.adr))).Ok to lk := by
  have hB : br.Ok := hO.br hlv
  have hk := step_k br (getW m.ms br.adr)
  have hs := Go.Proofs.YtcnfblibfndepaaGreatDoor.ctlsCover.step_ok hB (getW m.ms br.adr)
  obtain ⟨⟨k1, k2⟩, k3, k4, k5, k6, k7, k8, k9, k10⟩ := hO
  simp only at k1 k2 k4 k5 k6 k7 k8 k9
  have hL3 : L = 3 ∨ L = 6 := by
    simpa [SS.live] using hlv
  unfold SS.bar at h0 ⊢
  simp only at h0 ⊢
  rcases hk with e | e | e
  · rw [if_pos e] at h0 ⊢
    exact ⟨⟨k1, k2⟩, rfl, k4, k5, k6, k7, k8, k9, fun _ => hs e⟩
  · have e0 : ¬ (br.step (getW m.ms br.adr)).2 = 0 := by omega
    rw [if_neg e0, if_pos e] at h0 ⊢
    exact ⟨by show 1 ≤ L + 1 ∧ L + 1 ≤ 8; omega, rfl, k4, k5, k6, k7, k8, k9, fun h => by
      rcases hL3 with rfl | rfl <;> cases h⟩
  · have e0 : ¬ (br.step (getW m.ms br.adr)).2 = 0 := by omega
    have e1 : ¬ (br.step (getW m.ms br.adr)).2 = 1 := by omega
    rw [if_neg e0, if_neg e1] at h0 ⊢
    by_cases h3 : L = 3
    · rw [if_pos h3] at h0 ⊢
      exact ⟨by show 1 ≤ 8 ∧ 8 ≤ 8; omega, rfl, k4, k5, k6, k7, k8, k9, fun h => by cases h⟩
    · rw [if_neg h3] at h0
      exact absurd rfl h0
section
variable {σ : SS} {to : Nat} {lk : Int} (h : σ.Ok to lk) (l0 : -9223372036854775808 ≤ lk) (l1 : lk ≤ 40)
include h l0 l1
theorem swp_ok {m : PM} {a b c n ln2 en2 : Nat} (ha : a ≤ 3) (hb : b < 256) (hc : c < 256) (hn : n < 281474976710656) (hl : ln2 ≤ 8) (he : ln2 ≠ 0 → en2 = 4) (h0 : (σ.swp lk m a b c n ln2 en2).1.ln ≠ 0) : (σ.swp lk m a b c n ln2 en2).1.Ok to lk := by
  unfold SS.swp at h0 ⊢
  simp only at h0 ⊢
  by_cases hd : m.casd aP σ.w = true
  · rw [if_pos hd] at h0 ⊢
    exact ⟨⟨Nat.pos_of_ne_zero h0, hl⟩, he h0, ofp_lt _ _ _ _, ha, hb, hc, hn, h.to, fun _ => newB_ok hn l0 l1⟩
  · rw [if_neg hd] at h0
    exact absurd rfl h0
theorem SS.step_ok {m : PM} {k : Nat} (hm : m.Ok k) (h0 : (σ.step to lk m).1.ln ≠ 0) : (σ.step to lk m).1.Ok to lk := by
  obtain ⟨ln, en, w, wt, a, b, c, n, br⟩ := σ
  obtain ⟨⟨k1, k2⟩, k3, k4, k5, k6, k7, k8, k9, k10⟩ := h
  simp only at k1 k2 k3 k4 k5 k6 k7 k8 k9 k10
  subst k3
  have hO : SS.Ok ⟨ln, 4, w, wt, a, b, c, n, br⟩ to lk := ⟨⟨k1, k2⟩, rfl, k4, k5, k6, k7, k8, k9, k10⟩
  have hln : ln = 1 ∨ ln = 2 ∨ ln = 3 ∨ ln = 4 ∨ ln = 5 ∨ ln = 6 ∨ ln = 7 ∨ ln = 8 := by omega
  have nx := nx4_lt (a := a) (b := b) (c := c) (n := n) k6 k7 (show nx4 a b c n = ((nx4 a b c n).1, (nx4 a b c n).2.1, (nx4 a b c n).2.2.1, (nx4 a b c n).2.2.2) from rfl)
  have bg := bg4_lt (a := a) (b := b) (c := c) (n := n) (t := to) k6 k9 (show bg4 a b c n to = ((bg4 a b c n to).1, (bg4 a b c n to).2.1, (bg4 a b c n to).2.2.1, (bg4 a b c n to).2.2.2) from rfl)
  rcases hln with rfl | rfl | rfl | rfl | rfl | rfl | rfl | rfl
  · have hv := hm.val aP
    have h0 : (SS.one ⟨1, 4, w, wt, a, b, c, n, br⟩ to lk (getW m.ms aP)).ln ≠ 0 := h0
    show (SS.one ⟨1, 4, w, wt, a, b, c, n, br⟩ to lk (getW m.ms aP)).Ok to lk
    generalize getW m.ms aP = v at hv h0
    have hA := cz_lt (v % 8)
    have hN : v / 65536 % 281474976710656 < 281474976710656 := Nat.mod_lt _ (by omega)
    unfold SS.one at h0 ⊢
    split at h0
    · rename_i e
      rw [if_pos e]
      exact ⟨by show 1 ≤ 6 ∧ 6 ≤ 8; omega, rfl, hv, hA, by show v / 8 % 8 < 256; omega, by show v / 64 % 8 < 256; omega, hN, k9, fun _ => newB_ok hN l0 l1⟩
    · rename_i e
      rw [if_neg e]
      split at h0
      · rename_i e2
        rw [if_pos e2]
        exact ⟨by show 1 ≤ 2 ∧ 2 ≤ 8; omega, rfl, hv, hA, by show v / 8 % 8 < 256; omega, by show v / 64 % 8 < 256; omega, hN, k9, fun h => by cases h⟩
      · exact absurd rfl h0
  · exact swp_ok hO l0 l1 bg.1 bg.2.1 bg.2.2.1 bg.2.2.2 (by omega) (fun _ => rfl) h0
  · exact bar_ok 3 (by omega) hO rfl h0
  · exact swp_ok hO l0 l1 nx.1 nx.2.1 nx.2.2.1 nx.2.2.2 (by omega) (fun _ => rfl) h0
  · exact swp_ok hO l0 l1 nx.1 nx.2.1 nx.2.2.1 nx.2.2.2 (by omega) (fun _ => rfl) h0
  · exact bar_ok 6 (by omega) hO rfl h0
  · exact swp_ok hO l0 l1 nx.1 nx.2.1 nx.2.2.1 nx.2.2.2 (by omega) (fun h => absurd rfl h) h0
  · exact swp_ok hO l0 l1 (by omega) k6 (by omega) (mo_lt n) (by omega) (fun h => absurd rfl h) h0
end
end Go.Proofs.YtcnfblibfndepaaGreatDoor.ctlsCover
