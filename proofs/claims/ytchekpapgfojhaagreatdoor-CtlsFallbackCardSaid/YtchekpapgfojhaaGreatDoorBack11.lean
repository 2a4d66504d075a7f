/- The Switch of the program steps so. Conditions: those that each theorem names, and no others. -/
import Derived.Test.YtchekpapgfojhaaGreatDoorBack9
import Derived.Test.YtchekpapgfojhaaGreatDoorBack10
namespace Go.Proofs.YtchekpapgfojhaaGreatDoor.ctlsFallback
open Go Go.Mini
/-! ### a step of the program's Switch is the plain one -/
def Lx (o : AObj) : Prop := o.rw = true ∧ o.names (fun c => Nat.beq c 11) = true
theorem Lx.nm {o : AObj} (h : Lx o) {p : Nat → Bool} (hp : p 11 = true) : o.names p = true := onames_sub (fun c hc => by rw [Nat.eq_of_beq_eq_true hc]; exact hp) h.2
theorem Lx.ren {o : AObj} (h : Lx o) {π : Nat → Nat} (hp : π 11 = 11) : o.ren π = o := by rw [oren_congr (p := fun c => Nat.beq c 11) (π' := fun b => b) (fun c hc => by rw [Nat.eq_of_beq_eq_true hc]; exact hp) h.2, oren_id]
def B11 : AObj := .cells false [.ptr 11 0]
theorem lx11 : Lx B11 := ⟨rfl, rfl⟩
def BF (f : FuncId) : AObj := .cells false [.func (.func f) [.ptr 11 0] []]
theorem lxF (f : FuncId) : Lx (BF f) := ⟨rfl, rfl⟩
def NX (σ : SS) (to n15 n16 : Nat) (nxt : AV) (O : Nat → AObj) : Prop := match σ.ln with
  | 0 => nxt = .nilFunc
  | 1 => nxt = .func (.func 42) [.ptr 11 0] []
  | 2 => nxt = .func (.func 68) [] [.ptr n15 0, .ptr n16 0] ∧ O n15 = B11 ∧ O n16 = .cells false (begP σ.a σ.b σ.c σ.n to).1
  | 3 => nxt = .func (.func 89) [] [.ptr n15 0, .ptr n16 0] ∧ O n15 = B11 ∧ O n16 = BF 70
  | 4 => nxt = .func (.func 96) [] [.ptr n15 0] ∧ O n15 = B11
  | 5 => nxt = .func (.func 97) [.ptr 11 0] []
  | 6 => nxt = .func (.func 89) [] [.ptr n15 0, .ptr n16 0] ∧ O n15 = B11 ∧ O n16 = BF 66
  | 7 => nxt = .func (.func 92) [] [.ptr n15 0] ∧ O n15 = B11
  | _ => nxt = .func (.func 95) [.ptr 11 0] []
def WX (σ : SS) (n13 : Nat) (bpx : AV) (O : Nat → AObj) : Prop :=
  if σ.live = true then bpx = .ptr n13 0 ∧ O n13 = .cells false (σ.br.PO 0) ∧ σ.wt = σ.br.wt
  else (bpx = .nilPtr ∧ σ.wt = -1) ∨ ((σ.ln = 0 ∨ σ.ln = 8) ∧ bpx = .ptr n13 0 ∧ ∃ b0 : Br, O n13 = .cells false (b0.PO 2) ∧ σ.wt = b0.wt)
structure XS (σ : SS) (to n13 n15 n16 : Nat) (nxt : AV) (xa xb xc xn : Nat) (bpx : AV) (O : Nat → AObj) : Prop where
  nx : NX σ to n15 n16 nxt O
  wx : WX σ n13 bpx O
  px : 3 ≤ σ.ln → xa = σ.a ∧ xb = σ.b ∧ xc = σ.c ∧ xn = σ.n
def SS.X (σ : SS) (to : Nat) (lk : Int) (nxt : AV) (xa xb xc xn : Nat) (bpx : AV) : List AV := [nxt, .int .i64 (Int.ofNat (if σ.ln = 0 then σ.en else 0)), .bool true, .int .u8 (Int.ofNat to), .int .i64 lk, .int .u64 (Int.ofNat σ.w), .int .u8 (Int.ofNat xa), .int .u8 (Int.ofNat xb), .int .u8 (Int.ofNat xc), .int .u64 (Int.ofNat xn), bpx]
def O6 (o13 o15 o16 p1 p2 p3 : AObj) (i : Nat) : AObj := if i = 13 then o13 else if i = 15 then o15 else if i = 16 then o16 else if i = 17 then p1 else if i = 18 then p2 else p3
def GF : List (Nat × List AV) := [(0, wfW), (1, wfB), (2, wfP)]
def XC (to : Nat) (lk : Int) (h : AH) (r : SS × PM) : Prop :=
  ∃ nxt xa xb xc xn bpx n13 n15 n16 o13 o15 o16 p1 p2 p3, (n13 = 13 ∨ n13 = 17) ∧ (n15 = 15 ∨ n15 = 17 ∨ n15 = 18) ∧ (n16 = 16 ∨ n16 = 19) ∧ n13 ≠ n15 ∧ Lx o13 ∧ Lx o15 ∧ Lx o16 ∧ Lx p1 ∧ Lx p2 ∧ Lx p3 ∧ XS r.1 to n13 n15 n16 nxt xa xb xc xn bpx (O6 o13 o15 o16 p1 p2 p3) ∧
    Sound Tryz.prog (.call 15 [.ptr 11 0, .ptr 7 0] ⟨h, 17⟩) ⟨.ret, [.bool (decide (r.1.ln = 0))], (((((((((⟨h, 17⟩ : AS).set 11 (.cells false (r.1.X to lk nxt xa xb xc xn bpx))).set 7 (.cells false (r.2.C (.map 8)))).set 8 (mapO r.2.ms)).set 13 o13).set 15 o15).set 16 o16).push p1).push p2).push p3⟩
theorem wx_nil {σ : SS} {n13 : Nat} {bpx : AV} {O : Nat → AObj} (h : WX σ n13 bpx O) (hl : σ.live = false) (h0 : σ.ln ≠ 0) (h8 : σ.ln ≠ 8) : bpx = .nilPtr ∧ σ.wt = -1 := by
  unfold WX at h
  rw [hl, if_neg (by simp)] at h
  rcases h with h | ⟨h, _⟩
  · exact h
  · omega
theorem wx_live {σ : SS} {n13 : Nat} {bpx : AV} {O : Nat → AObj} (h : WX σ n13 bpx O) (hl : σ.live = true) : bpx = .ptr n13 0 ∧ O n13 = .cells false (σ.br.PO 0) ∧ σ.wt = σ.br.wt := by
  unfold WX at h
  rw [if_pos hl] at h
  exact h
theorem step_wt (b : Br) (v : Nat) (h : (b.step v).2 = 1) : (b.step v).1.wt = -1 := by
  unfold Br.step at h ⊢
  split at h
  · rename_i h0
    rw [if_pos h0]
    split at h
    · rename_i h1
      rw [if_pos h1]
    · cases h
  · rename_i h0
    rw [if_neg h0]
    split at h
    · rename_i h1
      rw [if_pos h1]
    · rename_i h1
      rw [if_neg h1]
      split at h
      · rename_i h2
        rw [if_pos h2]
        split at h <;> cases h
      · cases h
theorem barP_at {b : Br} (hB : b.Ok) {m : PM} (hv : getW m.ms b.adr < 18446744073709551616) {s : AS} (k13 : s.get 13 = some (.cells false (b.PO 0))) (k7 : s.get 7 = some (.cells false (m.C (.map 8)))) (k8 : s.get 8 = some (mapO m.ms)) (k1 : s.get 1 = some (.cells true wfB)) :
    Sound Tryz.prog (.call 90 [.ptr 13 0, .ptr 7 0] s) ⟨.ret, [.bool (decide ((b.step (getW m.ms b.adr)).2 ≠ 0))], ((s.set 13 (.cells false ((b.step (getW m.ms b.adr)).1.PO (b.step (getW m.ms b.adr)).2))).set 7 (.cells false ((m.load b.adr).C (.map 8)))).set 8 (mapO m.ms)⟩ := by
  obtain ⟨s1, hx, j13, j7, j8⟩ := barP_small hB hv
  have e13 : objAt s1 13 = .cells false ((b.step (getW m.ms b.adr)).1.PO (b.step (getW m.ms b.adr)).2) := by simp [objAt, j13]
  have e7 : objAt s1 7 = .cells false ((m.load b.adr).C (.map 8)) := by simp [objAt, j7]
  have e8 : objAt s1 8 = mapO m.ms := by simp [objAt, j8]
  have := ext0 hx (by decide) (s := s) (fun x hx => by
      simp only [List.mem_singleton] at hx
      subst hx
      exact ⟨show 1 < 17 by decide, show 1 ∉ [13, 7, 8] by decide, rfl, true, k1⟩)
    ⟨⟨show 13 < 17 by decide, rfl, Br.PO_names _ _ _, rfl, k13, by rw [e13]; exact .inl rfl, by rw [e13]; exact Br.PO_names _ _ _⟩, ⟨show 7 < 17 by decide, rfl, rfl, rfl, k7, by rw [e7]; exact .inl rfl, by rw [e7]; rfl⟩,
      ⟨show 8 < 17 by decide, rfl, mapO_names _ _, rfl, k8, by rw [e8]; exact .inl rfl, by rw [e8]; exact mapO_names _ _⟩, trivial⟩
    (show [13, 7, 8].Nodup by decide) rfl rfl
  simp only [List.map_cons, List.map_nil, setL, e13, e7, e8] at this
  exact this
theorem aspq (v : Nat) (hv : v < 18446744073709551616) : (Qst.pure GW 43 [.int .u64 (Int.ofNat v)] (.agg (phC (cz (v % 8)) (v / 8 % 8) (v / 64 % 8) (v / 65536 % 281474976710656)))).ok Tryz.prog := fun s hG => asp_call v hv s hG
theorem nextq {a b c n x1 x2 x3 x4 : Nat} (ha : a ≤ 3) (hn : n < 281474976710656) (h : nx4 a b c n = (x1, x2, x3, x4)) : (Qst.pure GP 103 [.agg (phC a b c n)] (.tuple [.agg (phC x1 x2 x3 x4), .bool (mayP a b c && decide (a ≠ 0))])).ok Tryz.prog := fun s hG => by
  have := next_call a b c n ha hn s hG
  rw [nx4_C, h] at this
  exact this
theorem beginq {a b c n t x1 x2 x3 x4 : Nat} (ha : a ≤ 3) (hn : n < 281474976710656) (h : bg4 a b c n t = (x1, x2, x3, x4)) : (Qst.pure [] 67 [.agg (phC a b c n), .int .u8 (Int.ofNat t)] (.tuple [.agg (phC x1 x2 x3 x4), .int .i64 (Int.ofNat (begP a b c n t).2)])).ok Tryz.prog := fun s _ => by
  have := begin_call a b c n t ha hn s
  rw [bg4_C, h] at this
  exact this
theorem phq {a b c n w2 : Nat} (hb : b < 256) (hc : c < 256) (hn : n < 18446744073709551616) (h : ofp a b c n = w2) : (Qst.pure GW 41 [.agg (phC a b c n)] (.int .u64 (Int.ofNat w2))).ok Tryz.prog := fun s hG => h ▸ ph_call a b c n hb hc hn s hG
theorem mlkq (lk : Int) : some (AV.int .i64 (if 1 > lk then Int.ofNat 1 else lk)) = some (AV.int .i64 (mlk lk)) := rfl
section
variable {m : PM} {h : AH} {o13 o15 o16 : AObj} {x0 : List AV} (k11 : AS.get ⟨h, 17⟩ 11 = some (.cells false x0)) (k7 : AS.get ⟨h, 17⟩ 7 = some (.cells false (m.C (.map 8)))) (k8 : AS.get ⟨h, 17⟩ 8 = some (mapO m.ms)) (k13 : AS.get ⟨h, 17⟩ 13 = some o13) (k15 : AS.get ⟨h, 17⟩ 15 = some o15) (k16 : AS.get ⟨h, 17⟩ 16 = some o16)
  (kG : ∀ x ∈ GF, ∃ ro, AS.get ⟨h, 17⟩ x.1 = some (.cells ro x.2)) (h13 : Lx o13) (h15 : Lx o15) (h16 : Lx o16) (hx0 : namess (fun b => Nat.blt b 17) x0 = true)
include k11 k7 k8 k13 k15 k16 kG h13 h15 h16 hx0
theorem mkX {e : AExit} {s1 : AS} {xc : List AV} {m' : PM} {o13' o15' o16' : AObj} {r : Bool} (new : List (Nat × AObj)) (hx : Sound Tryz.prog (.call 15 [.ptr 11 0, .ptr 7 0] (canF [(11, .cells false x0), (7, .cells false (m.C (.map 8))), (8, mapO m.ms), (13, o13), (15, o15), (16, o16)] GF 9 17)) ⟨e, [.bool r], s1⟩)
    (j11 : s1.get 11 = some (.cells false xc)) (j7 : s1.get 7 = some (.cells false (m'.C (.map 8)))) (j8 : s1.get 8 = some (mapO m'.ms)) (j13 : s1.get 13 = some o13') (j15 : s1.get 15 = some o15') (j16 : s1.get 16 = some o16') (hnew : ∀ x ∈ new, 17 ≤ x.1 ∧ s1.get x.1 = some x.2 ∧ Lx x.2) (hnd : (new.map (·.1)).Nodup)
    (hy : namess (pN 17 (new.map (·.1))) xc = true) (l13 : Lx o13') (l15 : Lx o15') (l16 : Lx o16') :
    Sound Tryz.prog (.call 15 [.ptr 11 0, .ptr 7 0] ⟨h, 17⟩) ⟨.ret, [.bool r], pushL (((((((⟨h, 17⟩ : AS).set 11 (.cells false (rens (pR 17 (new.map (·.1)) (fun b => b) 17) xc))).set 7 (.cells false (m'.C (.map 8)))).set 8 (mapO m'.ms)).set 13 o13').set 15 o15').set 16 o16') (new.map (·.2))⟩ := by
  have e11 : objAt s1 11 = .cells false xc := by simp [objAt, j11]
  have e7 : objAt s1 7 = .cells false (m'.C (.map 8)) := by simp [objAt, j7]
  have e8 : objAt s1 8 = mapO m'.ms := by simp [objAt, j8]
  have e13 : objAt s1 13 = o13' := by simp [objAt, j13]
  have e15 : objAt s1 15 = o15' := by simp [objAt, j15]
  have e16 : objAt s1 16 = o16' := by simp [objAt, j16]
  have p11 : ∀ l, pN 17 l 11 = true := fun l => rfl
  have r11 : ∀ l, pR 17 l (fun b => b) 17 11 = 11 := fun l => rfl
  have := extN hx (by decide) (new.map (·.1)) (s := ⟨h, 17⟩) (fun x hx => by
      have hg := kG x hx
      simp only [GF, List.mem_cons, List.not_mem_nil, or_false] at hx
      rcases hx with rfl | rfl | rfl
      · exact ⟨show 0 < 17 by decide, show 0 ∉ [11, 7, 8, 13, 15, 16] by decide, rfl, hg⟩
      · exact ⟨show 1 < 17 by decide, show 1 ∉ [11, 7, 8, 13, 15, 16] by decide, rfl, hg⟩
      · exact ⟨show 2 < 17 by decide, show 2 ∉ [11, 7, 8, 13, 15, 16] by decide, rfl, hg⟩)
    ⟨⟨show 11 < 17 by decide, rfl, hx0, rfl, k11, by rw [e11]; exact .inl rfl, by rw [e11]; exact hy⟩, ⟨show 7 < 17 by decide, rfl, rfl, rfl, k7, by rw [e7]; exact .inl rfl, by rw [e7]; rfl⟩, ⟨show 8 < 17 by decide, rfl, mapO_names _ _, rfl, k8, by rw [e8]; exact .inl rfl, by rw [e8]; exact mapO_names _ _⟩,
      ⟨show 13 < 17 by decide, h13.1, h13.nm rfl, rfl, k13, by rw [e13]; exact .inl l13.1, by rw [e13]; exact l13.nm (p11 _)⟩, ⟨show 15 < 17 by decide, h15.1, h15.nm rfl, rfl, k15, by rw [e15]; exact .inl l15.1, by rw [e15]; exact l15.nm (p11 _)⟩, ⟨show 16 < 17 by decide, h16.1, h16.nm rfl, rfl, k16, by rw [e16]; exact .inl l16.1, by rw [e16]; exact l16.nm (p11 _)⟩, trivial⟩
    (show [11, 7, 8, 13, 15, 16].Nodup by decide) hnd (fun b hb => by
      obtain ⟨x, hx, rfl⟩ := List.mem_map.1 hb
      obtain ⟨g1, g2, g3⟩ := hnew x hx
      have e : objAt s1 x.1 = x.2 := by simp [objAt, g2]
      rw [e]
      exact ⟨g1, g3.1, g3.nm (p11 _)⟩) rfl rfl
  have en : ((new.map (·.1)).map fun b => (objAt s1 b).ren (pR 17 (new.map (·.1)) (fun b => b) 17)) = new.map (·.2) := by
    rw [List.map_map]
    refine List.map_congr_left fun x hx => ?_
    obtain ⟨g1, g2, g3⟩ := hnew x hx
    show (objAt s1 x.1).ren _ = _
    rw [show objAt s1 x.1 = x.2 from by simp [objAt, g2], g3.ren (r11 _)]
  have en' : ((new.map (·.1)).map fun b => (objAt s1 b).ren (pR 17 (new.map (·.1)) (fun b => b) (⟨h, 17⟩ : AS).nx)) = new.map (·.2) := en
  rw [en'] at this
  simp only [List.map_cons, List.map_nil, setL, e11, e7, e8, e13, e15, e16, l13.ren (r11 _), l15.ren (r11 _), l16.ren (r11 _)] at this
  have q7 : (AObj.cells false (m'.C (.map 8))).ren (pR 17 (new.map (·.1)) (fun b => b) 17) = .cells false (m'.C (.map 8)) := rfl
  have q8 : (mapO m'.ms).ren (pR 17 (new.map (·.1)) (fun b => b) 17) = mapO m'.ms := mapO_ren _ _
  have this : Sound Tryz.prog (.call 15 [.ptr 11 0, .ptr 7 0] ⟨h, 17⟩) ⟨.ret, [.bool r], pushL (((((((⟨h, 17⟩ : AS).set 11 (.cells false (rens (pR 17 (new.map (·.1)) (fun b => b) 17) xc))).set 7 ((AObj.cells false (m'.C (.map 8))).ren (pR 17 (new.map (·.1)) (fun b => b) 17))).set 8 ((mapO m'.ms).ren (pR 17 (new.map (·.1)) (fun b => b) 17))).set 13 o13').set 15 o15').set 16 o16') (new.map (·.2))⟩ := this
  rw [q7, q8] at this
  exact this
end
section
variable {w a b c n to xa xb xc xn : Nat} {wt lk : Int} {br : Br} {m : PM} {h : AH} {nxt bpx : AV} {o13 o15 o16 d1 d2 d3 : AObj}
theorem X_2 (hO : SS.Ok ⟨2, 4, w, wt, a, b, c, n, br⟩ to lk) (k11 : AS.get ⟨h, 17⟩ 11 = some (.cells false (SS.X ⟨2, 4, w, wt, a, b, c, n, br⟩ to lk nxt xa xb xc xn bpx))) (k7 : AS.get ⟨h, 17⟩ 7 = some (.cells false (m.C (.map 8)))) (k8 : AS.get ⟨h, 17⟩ 8 = some (mapO m.ms)) (k13 : AS.get ⟨h, 17⟩ 13 = some o13) (k15 : AS.get ⟨h, 17⟩ 15 = some o15) (k16 : AS.get ⟨h, 17⟩ 16 = some o16)
    (kG : ∀ x ∈ GF, ∃ ro, AS.get ⟨h, 17⟩ x.1 = some (.cells ro x.2)) (h13 : Lx o13) (h15 : Lx o15) (h16 : Lx o16) (hX : XS ⟨2, 4, w, wt, a, b, c, n, br⟩ to 13 15 16 nxt xa xb xc xn bpx (O6 o13 o15 o16 d1 d2 d3)) (_ : ∀ a, getW m.ms a < 18446744073709551616) :
    XC to lk h (SS.step ⟨2, 4, w, wt, a, b, c, n, br⟩ to lk m) := by
  have ha : a ≤ 3 := hO.a
  have hb : b < 256 := hO.b
  have hc : c < 256 := hO.c
  have hn : n < 281474976710656 := hO.n
  have hto : to < 256 := hO.to
  have hE : Lx (.cells false []) := ⟨rfl, rfl⟩
  obtain ⟨hbp, hwt⟩ := wx_nil hX.wx rfl (show (2 : Nat) ≠ 0 by decide) (show (2 : Nat) ≠ 8 by decide)
  have hwt : wt = -1 := hwt
  subst hbp
  obtain ⟨q1, q2, q3, q4, hq4⟩ : ∃ q1 q2 q3 q4, bg4 a b c n to = (q1, q2, q3, q4) := ⟨_, _, _, _, rfl⟩
  obtain ⟨f1, f2, f3, f4⟩ := bg4_lt hb hto hq4
  obtain ⟨w2, hw2⟩ : ∃ w2, ofp q1 q2 q3 q4 = w2 := ⟨_, rfl⟩
  have es : SS.step ⟨2, 4, w, wt, a, b, c, n, br⟩ to lk m = SS.swp ⟨2, 4, w, wt, a, b, c, n, br⟩ lk m q1 q2 q3 q4 3 4 := by
    simp only [SS.step, hq4]
  rw [es]
  unfold SS.swp
  rw [hw2]
  obtain ⟨rfl, t15, t16⟩ := hX.nx
  have e15 : o15 = B11 := t15
  have e16 : o16 = .cells false (phC q1 q2 q3 q4) := by
    have t16 : o16 = .cells false (begP a b c n to).1 := t16
    rw [t16, bg4_C, hq4]
  clear t15 t16
  subst e15
  subst e16
  have hx0 : namess (fun b => Nat.blt b 17) (SS.X ⟨2, 4, w, wt, a, b, c, n, br⟩ to lk (.func (.func 68) [] [.ptr 15 0, .ptr 16 0]) xa xb xc xn .nilPtr) = true := by
    rfl
  have hcas := fun (s : AS) (j7 : s.get 7 = some (.cells false (m.C (.map 8)))) (j8 : s.get 8 = some (mapO m.ms)) => pcas_at j7 j8 aP (by decide) w w2
  by_cases hd : m.casd aP w = true
  · rw [hd] at hcas
    have hx := runX_sound mixed none_sound (x2_y to xa xb xc xn w 0 w2 0 0 0 0 0 0 0 0 0 q1 q2 q3 q4 lk (mlk lk) .nilPtr (.cells false (m.C (.map 8))) (.cells false ((m.cas aP w w2).C (.map 8))) (mapO m.ms) (mapO (m.cas aP w w2).ms) o13 B11 (.cells false (phC q1 q2 q3 q4)) false 0 0 .nilPtr .nilPtr .nilPtr .nilPtr .nilPtr) ⟨phq f2 f3 (by omega) hw2, hcas _ rfl rfl, phq f2 f3 (by omega) hw2, mlkq lk, trivial⟩
    simp only [hd, if_true]
    have fin := mkX (m' := m.cas aP w w2) (xc := (⟨3, 4, w2, wt, q1, q2, q3, q4, newB q4 lk⟩ : SS).X to lk (.func (.func 89) [] [.ptr 19 0, .ptr 20 0]) q1 q2 q3 q4 (.ptr 21 0)) (o13' := o13) (o15' := B11) (o16' := (.cells false (phC q1 q2 q3 q4))) k11 k7 k8 k13 k15 k16 kG h13 h15 h16 hx0 ([(21, .cells false ((newB q4 lk).PO 0)), (19, B11), (20, BF 70)] : List (Nat × AObj)) hx rfl rfl rfl rfl rfl rfl (fun x hx => by
          simp only [List.mem_cons, List.not_mem_nil, or_false] at hx
          rcases hx with rfl | rfl | rfl
          · exact ⟨show 17 ≤ 21 by decide, rfl, ⟨rfl, rfl⟩⟩
          · exact ⟨show 17 ≤ 19 by decide, rfl, lx11⟩
          · exact ⟨show 17 ≤ 20 by decide, rfl, lxF _⟩
          ) (show [21, 19, 20].Nodup by decide) rfl h13 lx11 h16
    have fin := (show rens (pR 17 (List.map (fun x : Nat × AObj => x.1) ([(21, .cells false ((newB q4 lk).PO 0)), (19, B11), (20, BF 70)] : List (Nat × AObj))) (fun b => b) 17) ((⟨3, 4, w2, wt, q1, q2, q3, q4, newB q4 lk⟩ : SS).X to lk (.func (.func 89) [] [.ptr 19 0, .ptr 20 0]) q1 q2 q3 q4 (.ptr 21 0)) = (⟨3, 4, w2, wt, q1, q2, q3, q4, newB q4 lk⟩ : SS).X to lk (.func (.func 89) [] [.ptr 18 0, .ptr 19 0]) q1 q2 q3 q4 (.ptr 17 0) from rfl) ▸ fin
    exact ⟨(.func (.func 89) [] [.ptr 18 0, .ptr 19 0]), q1, q2, q3, q4, (.ptr 17 0), 17, 18, 19, o13, B11, (.cells false (phC q1 q2 q3 q4)), .cells false ((newB q4 lk).PO 0), B11, BF 70, by simp, by simp, by simp, by decide, h13, lx11, h16, ⟨rfl, rfl⟩, lx11, lxF _, ⟨⟨rfl, rfl, rfl⟩, ⟨rfl, rfl, hwt⟩, fun _ => ⟨rfl, rfl, rfl, rfl⟩⟩, fin⟩
  · have hd0 : m.casd aP w = false := by simpa using hd
    rw [hd0] at hcas
    have hx := runX_sound mixed none_sound (x2_n to xa xb xc xn w 0 w2 0 0 0 0 0 0 0 0 0 q1 q2 q3 q4 lk (mlk lk) .nilPtr (.cells false (m.C (.map 8))) (.cells false ((m.cas aP w w2).C (.map 8))) (mapO m.ms) (mapO (m.cas aP w w2).ms) o13 B11 (.cells false (phC q1 q2 q3 q4)) false 0 0 .nilPtr .nilPtr .nilPtr .nilPtr .nilPtr) ⟨phq f2 f3 (by omega) hw2, hcas _ rfl rfl, trivial⟩
    simp only [hd0, Bool.false_eq_true, if_false]
    have fin := mkX (m' := m.cas aP w w2) (xc := (⟨0, 7, w, wt, a, b, c, n, br⟩ : SS).X to lk .nilFunc xa xb xc xn .nilPtr) (o13' := o13) (o15' := B11) (o16' := (.cells false (phC q1 q2 q3 q4))) k11 k7 k8 k13 k15 k16 kG h13 h15 h16 hx0 ([] : List (Nat × AObj)) hx rfl rfl rfl rfl rfl rfl (fun x hx => by cases hx) (by decide) rfl h13 lx11 h16
    have fin := (show rens (pR 17 (List.map (fun x : Nat × AObj => x.1) ([] : List (Nat × AObj))) (fun b => b) 17) ((⟨0, 7, w, wt, a, b, c, n, br⟩ : SS).X to lk .nilFunc xa xb xc xn .nilPtr) = (⟨0, 7, w, wt, a, b, c, n, br⟩ : SS).X to lk .nilFunc xa xb xc xn .nilPtr from rfl) ▸ fin
    exact ⟨.nilFunc, xa, xb, xc, xn, .nilPtr, 13, 15, 16, o13, B11, (.cells false (phC q1 q2 q3 q4)), (.cells false []), (.cells false []), (.cells false []), by simp, by simp, by simp, by decide, h13, lx11, h16, hE, hE, hE, ⟨rfl, .inl ⟨rfl, hwt⟩, fun h => by cases h⟩, Sound.ghost (.cells false []) (Sound.ghost (.cells false []) (Sound.ghost (.cells false []) (fin)))⟩
theorem X_4 (hO : SS.Ok ⟨4, 4, w, wt, a, b, c, n, br⟩ to lk) (k11 : AS.get ⟨h, 17⟩ 11 = some (.cells false (SS.X ⟨4, 4, w, wt, a, b, c, n, br⟩ to lk nxt xa xb xc xn bpx))) (k7 : AS.get ⟨h, 17⟩ 7 = some (.cells false (m.C (.map 8)))) (k8 : AS.get ⟨h, 17⟩ 8 = some (mapO m.ms)) (k13 : AS.get ⟨h, 17⟩ 13 = some o13) (k15 : AS.get ⟨h, 17⟩ 15 = some o15) (k16 : AS.get ⟨h, 17⟩ 16 = some o16)
    (kG : ∀ x ∈ GF, ∃ ro, AS.get ⟨h, 17⟩ x.1 = some (.cells ro x.2)) (h13 : Lx o13) (h15 : Lx o15) (h16 : Lx o16) (hX : XS ⟨4, 4, w, wt, a, b, c, n, br⟩ to 13 15 16 nxt xa xb xc xn bpx (O6 o13 o15 o16 d1 d2 d3)) (_ : ∀ a, getW m.ms a < 18446744073709551616) :
    XC to lk h (SS.step ⟨4, 4, w, wt, a, b, c, n, br⟩ to lk m) := by
  have ha : a ≤ 3 := hO.a
  have hb : b < 256 := hO.b
  have hc : c < 256 := hO.c
  have hn : n < 281474976710656 := hO.n
  have hto : to < 256 := hO.to
  have hE : Lx (.cells false []) := ⟨rfl, rfl⟩
  obtain ⟨hbp, hwt⟩ := wx_nil hX.wx rfl (show (4 : Nat) ≠ 0 by decide) (show (4 : Nat) ≠ 8 by decide)
  have hwt : wt = -1 := hwt
  subst hbp
  obtain ⟨rfl, rfl, rfl, rfl⟩ := hX.px (show (3 : Nat) ≤ 4 by decide)
  obtain ⟨x1, x2, x3, x4, hx4⟩ : ∃ x1 x2 x3 x4, nx4 xa xb xc xn = (x1, x2, x3, x4) := ⟨_, _, _, _, rfl⟩
  obtain ⟨g1, g2, g3, g4⟩ := nx4_lt hb hc hx4
  obtain ⟨w2, hw2⟩ : ∃ w2, ofp x1 x2 x3 x4 = w2 := ⟨_, rfl⟩
  have es : SS.step ⟨4, 4, w, wt, xa, xb, xc, xn, br⟩ to lk m = SS.swp ⟨4, 4, w, wt, xa, xb, xc, xn, br⟩ lk m x1 x2 x3 x4 5 4 := by
    simp only [SS.step, hx4]
  rw [es]
  unfold SS.swp
  rw [hw2]
  obtain ⟨rfl, t15⟩ := hX.nx
  have e15 : o15 = B11 := t15
  clear t15
  subst e15
  have hx0 : namess (fun b => Nat.blt b 17) (SS.X ⟨4, 4, w, wt, xa, xb, xc, xn, br⟩ to lk (.func (.func 96) [] [.ptr 15 0]) xa xb xc xn .nilPtr) = true := by
    rfl
  have hcas := fun (s : AS) (j7 : s.get 7 = some (.cells false (m.C (.map 8)))) (j8 : s.get 8 = some (mapO m.ms)) => pcas_at j7 j8 aP (by decide) w w2
  by_cases hd : m.casd aP w = true
  · rw [hd] at hcas
    have hx := runX_sound mixed none_sound (x4_y to xa xb xc xn w 0 w2 0 0 0 0 0 x1 x2 x3 x4 0 0 0 0 lk (mlk lk) .nilPtr (.cells false (m.C (.map 8))) (.cells false ((m.cas aP w w2).C (.map 8))) (mapO m.ms) (mapO (m.cas aP w w2).ms) o13 B11 o16 (mayP xa xb xc && decide (xa ≠ 0)) 0 0 .nilPtr .nilPtr .nilPtr .nilPtr .nilPtr) ⟨nextq ha hn hx4, phq g2 g3 (by omega) hw2, hcas _ rfl rfl, phq g2 g3 (by omega) hw2, trivial⟩
    simp only [hd, if_true]
    have fin := mkX (m' := m.cas aP w w2) (xc := (⟨5, 4, w2, wt, x1, x2, x3, x4, newB x4 lk⟩ : SS).X to lk (.func (.func 97) [.ptr 11 0] []) x1 x2 x3 x4 .nilPtr) (o13' := o13) (o15' := B11) (o16' := o16) k11 k7 k8 k13 k15 k16 kG h13 h15 h16 hx0 ([] : List (Nat × AObj)) hx rfl rfl rfl rfl rfl rfl (fun x hx => by cases hx) (by decide) rfl h13 lx11 h16
    have fin := (show rens (pR 17 (List.map (fun x : Nat × AObj => x.1) ([] : List (Nat × AObj))) (fun b => b) 17) ((⟨5, 4, w2, wt, x1, x2, x3, x4, newB x4 lk⟩ : SS).X to lk (.func (.func 97) [.ptr 11 0] []) x1 x2 x3 x4 .nilPtr) = (⟨5, 4, w2, wt, x1, x2, x3, x4, newB x4 lk⟩ : SS).X to lk (.func (.func 97) [.ptr 11 0] []) x1 x2 x3 x4 .nilPtr from rfl) ▸ fin
    exact ⟨(.func (.func 97) [.ptr 11 0] []), x1, x2, x3, x4, .nilPtr, 13, 15, 16, o13, B11, o16, (.cells false []), (.cells false []), (.cells false []), by simp, by simp, by simp, by decide, h13, lx11, h16, hE, hE, hE, ⟨rfl, .inl ⟨rfl, hwt⟩, fun _ => ⟨rfl, rfl, rfl, rfl⟩⟩, Sound.ghost (.cells false []) (Sound.ghost (.cells false []) (Sound.ghost (.cells false []) (fin)))⟩
  · have hd0 : m.casd aP w = false := by simpa using hd
    rw [hd0] at hcas
    have hx := runX_sound mixed none_sound (x4_n to xa xb xc xn w 0 w2 0 0 0 0 0 x1 x2 x3 x4 0 0 0 0 lk (mlk lk) .nilPtr (.cells false (m.C (.map 8))) (.cells false ((m.cas aP w w2).C (.map 8))) (mapO m.ms) (mapO (m.cas aP w w2).ms) o13 B11 o16 (mayP xa xb xc && decide (xa ≠ 0)) 0 0 .nilPtr .nilPtr .nilPtr .nilPtr .nilPtr) ⟨nextq ha hn hx4, phq g2 g3 (by omega) hw2, hcas _ rfl rfl, trivial⟩
    simp only [hd0, Bool.false_eq_true, if_false]
    have fin := mkX (m' := m.cas aP w w2) (xc := (⟨0, 7, w, wt, xa, xb, xc, xn, br⟩ : SS).X to lk .nilFunc xa xb xc xn .nilPtr) (o13' := o13) (o15' := B11) (o16' := o16) k11 k7 k8 k13 k15 k16 kG h13 h15 h16 hx0 ([] : List (Nat × AObj)) hx rfl rfl rfl rfl rfl rfl (fun x hx => by cases hx) (by decide) rfl h13 lx11 h16
    have fin := (show rens (pR 17 (List.map (fun x : Nat × AObj => x.1) ([] : List (Nat × AObj))) (fun b => b) 17) ((⟨0, 7, w, wt, xa, xb, xc, xn, br⟩ : SS).X to lk .nilFunc xa xb xc xn .nilPtr) = (⟨0, 7, w, wt, xa, xb, xc, xn, br⟩ : SS).X to lk .nilFunc xa xb xc xn .nilPtr from rfl) ▸ fin
    exact ⟨.nilFunc, xa, xb, xc, xn, .nilPtr, 13, 15, 16, o13, B11, o16, (.cells false []), (.cells false []), (.cells false []), by simp, by simp, by simp, by decide, h13, lx11, h16, hE, hE, hE, ⟨rfl, .inl ⟨rfl, hwt⟩, fun h => by cases h⟩, Sound.ghost (.cells false []) (Sound.ghost (.cells false []) (Sound.ghost (.cells false []) (fin)))⟩
theorem X_5 (hO : SS.Ok ⟨5, 4, w, wt, a, b, c, n, br⟩ to lk) (k11 : AS.get ⟨h, 17⟩ 11 = some (.cells false (SS.X ⟨5, 4, w, wt, a, b, c, n, br⟩ to lk nxt xa xb xc xn bpx))) (k7 : AS.get ⟨h, 17⟩ 7 = some (.cells false (m.C (.map 8)))) (k8 : AS.get ⟨h, 17⟩ 8 = some (mapO m.ms)) (k13 : AS.get ⟨h, 17⟩ 13 = some o13) (k15 : AS.get ⟨h, 17⟩ 15 = some o15) (k16 : AS.get ⟨h, 17⟩ 16 = some o16)
    (kG : ∀ x ∈ GF, ∃ ro, AS.get ⟨h, 17⟩ x.1 = some (.cells ro x.2)) (h13 : Lx o13) (h15 : Lx o15) (h16 : Lx o16) (hX : XS ⟨5, 4, w, wt, a, b, c, n, br⟩ to 13 15 16 nxt xa xb xc xn bpx (O6 o13 o15 o16 d1 d2 d3)) (_ : ∀ a, getW m.ms a < 18446744073709551616) :
    XC to lk h (SS.step ⟨5, 4, w, wt, a, b, c, n, br⟩ to lk m) := by
  have ha : a ≤ 3 := hO.a
  have hb : b < 256 := hO.b
  have hc : c < 256 := hO.c
  have hn : n < 281474976710656 := hO.n
  have hto : to < 256 := hO.to
  have hE : Lx (.cells false []) := ⟨rfl, rfl⟩
  obtain ⟨hbp, hwt⟩ := wx_nil hX.wx rfl (show (5 : Nat) ≠ 0 by decide) (show (5 : Nat) ≠ 8 by decide)
  have hwt : wt = -1 := hwt
  subst hbp
  obtain ⟨rfl, rfl, rfl, rfl⟩ := hX.px (show (3 : Nat) ≤ 5 by decide)
  obtain ⟨x1, x2, x3, x4, hx4⟩ : ∃ x1 x2 x3 x4, nx4 xa xb xc xn = (x1, x2, x3, x4) := ⟨_, _, _, _, rfl⟩
  obtain ⟨g1, g2, g3, g4⟩ := nx4_lt hb hc hx4
  obtain ⟨w2, hw2⟩ : ∃ w2, ofp x1 x2 x3 x4 = w2 := ⟨_, rfl⟩
  have es : SS.step ⟨5, 4, w, wt, xa, xb, xc, xn, br⟩ to lk m = SS.swp ⟨5, 4, w, wt, xa, xb, xc, xn, br⟩ lk m x1 x2 x3 x4 6 4 := by
    simp only [SS.step, hx4]
  rw [es]
  unfold SS.swp
  rw [hw2]
  have e := hX.nx
  have e : nxt = (.func (.func 97) [.ptr 11 0] []) := e
  subst e
  have hx0 : namess (fun b => Nat.blt b 17) (SS.X ⟨5, 4, w, wt, xa, xb, xc, xn, br⟩ to lk (.func (.func 97) [.ptr 11 0] []) xa xb xc xn .nilPtr) = true := by
    rfl
  have hcas := fun (s : AS) (j7 : s.get 7 = some (.cells false (m.C (.map 8)))) (j8 : s.get 8 = some (mapO m.ms)) => pcas_at j7 j8 aP (by decide) w w2
  by_cases hd : m.casd aP w = true
  · rw [hd] at hcas
    have hx := runX_sound mixed none_sound (x5_y to xa xb xc xn w 0 w2 0 0 0 0 0 x1 x2 x3 x4 0 0 0 0 lk (mlk lk) .nilPtr (.cells false (m.C (.map 8))) (.cells false ((m.cas aP w w2).C (.map 8))) (mapO m.ms) (mapO (m.cas aP w w2).ms) o13 o15 o16 (mayP xa xb xc && decide (xa ≠ 0)) 0 0 .nilPtr .nilPtr .nilPtr .nilPtr .nilPtr) ⟨nextq ha hn hx4, phq g2 g3 (by omega) hw2, hcas _ rfl rfl, phq g2 g3 (by omega) hw2, mlkq lk, trivial⟩
    simp only [hd, if_true]
    have fin := mkX (m' := m.cas aP w w2) (xc := (⟨6, 4, w2, wt, x1, x2, x3, x4, newB x4 lk⟩ : SS).X to lk (.func (.func 89) [] [.ptr 20 0, .ptr 21 0]) x1 x2 x3 x4 (.ptr 22 0)) (o13' := o13) (o15' := o15) (o16' := o16) k11 k7 k8 k13 k15 k16 kG h13 h15 h16 hx0 ([(22, .cells false ((newB x4 lk).PO 0)), (20, B11), (21, BF 66)] : List (Nat × AObj)) hx rfl rfl rfl rfl rfl rfl (fun x hx => by
          simp only [List.mem_cons, List.not_mem_nil, or_false] at hx
          rcases hx with rfl | rfl | rfl
          · exact ⟨show 17 ≤ 22 by decide, rfl, ⟨rfl, rfl⟩⟩
          · exact ⟨show 17 ≤ 20 by decide, rfl, lx11⟩
          · exact ⟨show 17 ≤ 21 by decide, rfl, lxF _⟩
          ) (show [22, 20, 21].Nodup by decide) rfl h13 h15 h16
    have fin := (show rens (pR 17 (List.map (fun x : Nat × AObj => x.1) ([(22, .cells false ((newB x4 lk).PO 0)), (20, B11), (21, BF 66)] : List (Nat × AObj))) (fun b => b) 17) ((⟨6, 4, w2, wt, x1, x2, x3, x4, newB x4 lk⟩ : SS).X to lk (.func (.func 89) [] [.ptr 20 0, .ptr 21 0]) x1 x2 x3 x4 (.ptr 22 0)) = (⟨6, 4, w2, wt, x1, x2, x3, x4, newB x4 lk⟩ : SS).X to lk (.func (.func 89) [] [.ptr 18 0, .ptr 19 0]) x1 x2 x3 x4 (.ptr 17 0) from rfl) ▸ fin
    exact ⟨(.func (.func 89) [] [.ptr 18 0, .ptr 19 0]), x1, x2, x3, x4, (.ptr 17 0), 17, 18, 19, o13, o15, o16, .cells false ((newB x4 lk).PO 0), B11, BF 66, by simp, by simp, by simp, by decide, h13, h15, h16, ⟨rfl, rfl⟩, lx11, lxF _, ⟨⟨rfl, rfl, rfl⟩, ⟨rfl, rfl, hwt⟩, fun _ => ⟨rfl, rfl, rfl, rfl⟩⟩, fin⟩
  · have hd0 : m.casd aP w = false := by simpa using hd
    rw [hd0] at hcas
    have hx := runX_sound mixed none_sound (x5_n to xa xb xc xn w 0 w2 0 0 0 0 0 x1 x2 x3 x4 0 0 0 0 lk (mlk lk) .nilPtr (.cells false (m.C (.map 8))) (.cells false ((m.cas aP w w2).C (.map 8))) (mapO m.ms) (mapO (m.cas aP w w2).ms) o13 o15 o16 (mayP xa xb xc && decide (xa ≠ 0)) 0 0 .nilPtr .nilPtr .nilPtr .nilPtr .nilPtr) ⟨nextq ha hn hx4, phq g2 g3 (by omega) hw2, hcas _ rfl rfl, trivial⟩
    simp only [hd0, Bool.false_eq_true, if_false]
    have fin := mkX (m' := m.cas aP w w2) (xc := (⟨0, 7, w, wt, xa, xb, xc, xn, br⟩ : SS).X to lk .nilFunc xa xb xc xn .nilPtr) (o13' := o13) (o15' := o15) (o16' := o16) k11 k7 k8 k13 k15 k16 kG h13 h15 h16 hx0 ([] : List (Nat × AObj)) hx rfl rfl rfl rfl rfl rfl (fun x hx => by cases hx) (by decide) rfl h13 h15 h16
    have fin := (show rens (pR 17 (List.map (fun x : Nat × AObj => x.1) ([] : List (Nat × AObj))) (fun b => b) 17) ((⟨0, 7, w, wt, xa, xb, xc, xn, br⟩ : SS).X to lk .nilFunc xa xb xc xn .nilPtr) = (⟨0, 7, w, wt, xa, xb, xc, xn, br⟩ : SS).X to lk .nilFunc xa xb xc xn .nilPtr from rfl) ▸ fin
    exact ⟨.nilFunc, xa, xb, xc, xn, .nilPtr, 13, 15, 16, o13, o15, o16, (.cells false []), (.cells false []), (.cells false []), by simp, by simp, by simp, by decide, h13, h15, h16, hE, hE, hE, ⟨rfl, .inl ⟨rfl, hwt⟩, fun h => by cases h⟩, Sound.ghost (.cells false []) (Sound.ghost (.cells false []) (Sound.ghost (.cells false []) (fin)))⟩
theorem X_7 (hO : SS.Ok ⟨7, 4, w, wt, a, b, c, n, br⟩ to lk) (k11 : AS.get ⟨h, 17⟩ 11 = some (.cells false (SS.X ⟨7, 4, w, wt, a, b, c, n, br⟩ to lk nxt xa xb xc xn bpx))) (k7 : AS.get ⟨h, 17⟩ 7 = some (.cells false (m.C (.map 8)))) (k8 : AS.get ⟨h, 17⟩ 8 = some (mapO m.ms)) (k13 : AS.get ⟨h, 17⟩ 13 = some o13) (k15 : AS.get ⟨h, 17⟩ 15 = some o15) (k16 : AS.get ⟨h, 17⟩ 16 = some o16)
    (kG : ∀ x ∈ GF, ∃ ro, AS.get ⟨h, 17⟩ x.1 = some (.cells ro x.2)) (h13 : Lx o13) (h15 : Lx o15) (h16 : Lx o16) (hX : XS ⟨7, 4, w, wt, a, b, c, n, br⟩ to 13 15 16 nxt xa xb xc xn bpx (O6 o13 o15 o16 d1 d2 d3)) (_ : ∀ a, getW m.ms a < 18446744073709551616) :
    XC to lk h (SS.step ⟨7, 4, w, wt, a, b, c, n, br⟩ to lk m) := by
  have ha : a ≤ 3 := hO.a
  have hb : b < 256 := hO.b
  have hc : c < 256 := hO.c
  have hn : n < 281474976710656 := hO.n
  have hto : to < 256 := hO.to
  have hE : Lx (.cells false []) := ⟨rfl, rfl⟩
  obtain ⟨hbp, hwt⟩ := wx_nil hX.wx rfl (show (7 : Nat) ≠ 0 by decide) (show (7 : Nat) ≠ 8 by decide)
  have hwt : wt = -1 := hwt
  subst hbp
  obtain ⟨rfl, rfl, rfl, rfl⟩ := hX.px (show (3 : Nat) ≤ 7 by decide)
  obtain ⟨x1, x2, x3, x4, hx4⟩ : ∃ x1 x2 x3 x4, nx4 xa xb xc xn = (x1, x2, x3, x4) := ⟨_, _, _, _, rfl⟩
  obtain ⟨g1, g2, g3, g4⟩ := nx4_lt hb hc hx4
  obtain ⟨w2, hw2⟩ : ∃ w2, ofp x1 x2 x3 x4 = w2 := ⟨_, rfl⟩
  have es : SS.step ⟨7, 4, w, wt, xa, xb, xc, xn, br⟩ to lk m = SS.swp ⟨7, 4, w, wt, xa, xb, xc, xn, br⟩ lk m x1 x2 x3 x4 0 0 := by
    simp only [SS.step, hx4]
  rw [es]
  unfold SS.swp
  rw [hw2]
  obtain ⟨rfl, t15⟩ := hX.nx
  have e15 : o15 = B11 := t15
  clear t15
  subst e15
  have hx0 : namess (fun b => Nat.blt b 17) (SS.X ⟨7, 4, w, wt, xa, xb, xc, xn, br⟩ to lk (.func (.func 92) [] [.ptr 15 0]) xa xb xc xn .nilPtr) = true := by
    rfl
  have hcas := fun (s : AS) (j7 : s.get 7 = some (.cells false (m.C (.map 8)))) (j8 : s.get 8 = some (mapO m.ms)) => pcas_at j7 j8 aP (by decide) w w2
  by_cases hd : m.casd aP w = true
  · rw [hd] at hcas
    have hx := runX_sound mixed none_sound (x7_y to xa xb xc xn w 0 w2 0 0 0 0 0 x1 x2 x3 x4 0 0 0 0 lk (mlk lk) .nilPtr (.cells false (m.C (.map 8))) (.cells false ((m.cas aP w w2).C (.map 8))) (mapO m.ms) (mapO (m.cas aP w w2).ms) o13 B11 o16 (mayP xa xb xc && decide (xa ≠ 0)) 0 0 .nilPtr .nilPtr .nilPtr .nilPtr .nilPtr) ⟨nextq ha hn hx4, phq g2 g3 (by omega) hw2, hcas _ rfl rfl, phq g2 g3 (by omega) hw2, trivial⟩
    simp only [hd, if_true]
    have fin := mkX (m' := m.cas aP w w2) (xc := (⟨0, 0, w2, wt, x1, x2, x3, x4, newB x4 lk⟩ : SS).X to lk .nilFunc x1 x2 x3 x4 .nilPtr) (o13' := o13) (o15' := B11) (o16' := o16) k11 k7 k8 k13 k15 k16 kG h13 h15 h16 hx0 ([] : List (Nat × AObj)) hx rfl rfl rfl rfl rfl rfl (fun x hx => by cases hx) (by decide) rfl h13 lx11 h16
    have fin := (show rens (pR 17 (List.map (fun x : Nat × AObj => x.1) ([] : List (Nat × AObj))) (fun b => b) 17) ((⟨0, 0, w2, wt, x1, x2, x3, x4, newB x4 lk⟩ : SS).X to lk .nilFunc x1 x2 x3 x4 .nilPtr) = (⟨0, 0, w2, wt, x1, x2, x3, x4, newB x4 lk⟩ : SS).X to lk .nilFunc x1 x2 x3 x4 .nilPtr from rfl) ▸ fin
    exact ⟨.nilFunc, x1, x2, x3, x4, .nilPtr, 13, 15, 16, o13, B11, o16, (.cells false []), (.cells false []), (.cells false []), by simp, by simp, by simp, by decide, h13, lx11, h16, hE, hE, hE, ⟨rfl, .inl ⟨rfl, hwt⟩, fun h => by cases h⟩, Sound.ghost (.cells false []) (Sound.ghost (.cells false []) (Sound.ghost (.cells false []) (fin)))⟩
  · have hd0 : m.casd aP w = false := by simpa using hd
    rw [hd0] at hcas
    have hx := runX_sound mixed none_sound (x7_n to xa xb xc xn w 0 w2 0 0 0 0 0 x1 x2 x3 x4 0 0 0 0 lk (mlk lk) .nilPtr (.cells false (m.C (.map 8))) (.cells false ((m.cas aP w w2).C (.map 8))) (mapO m.ms) (mapO (m.cas aP w w2).ms) o13 B11 o16 (mayP xa xb xc && decide (xa ≠ 0)) 0 0 .nilPtr .nilPtr .nilPtr .nilPtr .nilPtr) ⟨nextq ha hn hx4, phq g2 g3 (by omega) hw2, hcas _ rfl rfl, trivial⟩
    simp only [hd0, Bool.false_eq_true, if_false]
    have fin := mkX (m' := m.cas aP w w2) (xc := (⟨0, 7, w, wt, xa, xb, xc, xn, br⟩ : SS).X to lk .nilFunc xa xb xc xn .nilPtr) (o13' := o13) (o15' := B11) (o16' := o16) k11 k7 k8 k13 k15 k16 kG h13 h15 h16 hx0 ([] : List (Nat × AObj)) hx rfl rfl rfl rfl rfl rfl (fun x hx => by cases hx) (by decide) rfl h13 lx11 h16
    have fin := (show rens (pR 17 (List.map (fun x : Nat × AObj => x.1) ([] : List (Nat × AObj))) (fun b => b) 17) ((⟨0, 7, w, wt, xa, xb, xc, xn, br⟩ : SS).X to lk .nilFunc xa xb xc xn .nilPtr) = (⟨0, 7, w, wt, xa, xb, xc, xn, br⟩ : SS).X to lk .nilFunc xa xb xc xn .nilPtr from rfl) ▸ fin
    exact ⟨.nilFunc, xa, xb, xc, xn, .nilPtr, 13, 15, 16, o13, B11, o16, (.cells false []), (.cells false []), (.cells false []), by simp, by simp, by simp, by decide, h13, lx11, h16, hE, hE, hE, ⟨rfl, .inl ⟨rfl, hwt⟩, fun h => by cases h⟩, Sound.ghost (.cells false []) (Sound.ghost (.cells false []) (Sound.ghost (.cells false []) (fin)))⟩
theorem X_8 (hO : SS.Ok ⟨8, 4, w, wt, a, b, c, n, br⟩ to lk) (k11 : AS.get ⟨h, 17⟩ 11 = some (.cells false (SS.X ⟨8, 4, w, wt, a, b, c, n, br⟩ to lk nxt xa xb xc xn bpx))) (k7 : AS.get ⟨h, 17⟩ 7 = some (.cells false (m.C (.map 8)))) (k8 : AS.get ⟨h, 17⟩ 8 = some (mapO m.ms)) (k13 : AS.get ⟨h, 17⟩ 13 = some o13) (k15 : AS.get ⟨h, 17⟩ 15 = some o15) (k16 : AS.get ⟨h, 17⟩ 16 = some o16)
    (kG : ∀ x ∈ GF, ∃ ro, AS.get ⟨h, 17⟩ x.1 = some (.cells ro x.2)) (h13 : Lx o13) (h15 : Lx o15) (h16 : Lx o16) (hX : XS ⟨8, 4, w, wt, a, b, c, n, br⟩ to 13 15 16 nxt xa xb xc xn bpx (O6 o13 o15 o16 d1 d2 d3)) (_ : ∀ a, getW m.ms a < 18446744073709551616) :
    XC to lk h (SS.step ⟨8, 4, w, wt, a, b, c, n, br⟩ to lk m) := by
  have ha : a ≤ 3 := hO.a
  have hb : b < 256 := hO.b
  have hc : c < 256 := hO.c
  have hn : n < 281474976710656 := hO.n
  have hto : to < 256 := hO.to
  have hE : Lx (.cells false []) := ⟨rfl, rfl⟩
  have hbpn : bpx.names (fun b => Nat.blt b 17) = true ∧ (∀ l, bpx.ren (pR 17 l (fun b => b) 17) = bpx) := by
    have hwx := hX.wx
    unfold WX at hwx
    rw [if_neg (by simp [SS.live])] at hwx
    rcases hwx with ⟨rfl, _⟩ | ⟨_, rfl, _⟩
    · exact ⟨rfl, fun _ => rfl⟩
    · exact ⟨rfl, fun _ => rfl⟩
  obtain ⟨rfl, rfl, rfl, rfl⟩ := hX.px (show (3 : Nat) ≤ 8 by decide)
  obtain ⟨w2, hw2⟩ : ∃ w2, ofp 0 xb 0 (mo xn) = w2 := ⟨_, rfl⟩
  have es : SS.step ⟨8, 4, w, wt, xa, xb, xc, xn, br⟩ to lk m = SS.swp ⟨8, 4, w, wt, xa, xb, xc, xn, br⟩ lk m 0 xb 0 (mo xn) 0 9 := by
    simp only [SS.step]
  rw [es]
  unfold SS.swp
  rw [hw2]
  have e := hX.nx
  have e : nxt = (.func (.func 95) [.ptr 11 0] []) := e
  subst e
  have hx0 : namess (fun b => Nat.blt b 17) (SS.X ⟨8, 4, w, wt, xa, xb, xc, xn, br⟩ to lk (.func (.func 95) [.ptr 11 0] []) xa xb xc xn bpx) = true := by
    show ((AV.func (.func 95) [.ptr 11 0] []).names (fun b => Nat.blt b 17) && (true && (true && (true && (true && (true && (true && (true && (true && (true && (bpx.names (fun b => Nat.blt b 17) && true))))))))))) = true
    rw [hbpn.1]
    rfl
  have hcas := fun (s : AS) (j7 : s.get 7 = some (.cells false (m.C (.map 8)))) (j8 : s.get 8 = some (mapO m.ms)) => pcas_at j7 j8 aP (by decide) w w2
  by_cases hd : m.casd aP w = true
  · rw [hd] at hcas
    have hx := runX_sound mixed none_sound (x8_y to xa xb xc xn w 0 w2 0 0 0 0 0 0 0 0 0 0 0 0 0 lk (mlk lk) bpx (.cells false (m.C (.map 8))) (.cells false ((m.cas aP w w2).C (.map 8))) (mapO m.ms) (mapO (m.cas aP w w2).ms) o13 o15 o16 false 0 0 .nilPtr .nilPtr .nilPtr .nilPtr .nilPtr) ⟨q_inc xn hn, q_rem xn, phq hb (by omega) (by have := mo_lt xn; omega) hw2, hcas _ rfl rfl, phq hb (by omega) (by have := mo_lt xn; omega) hw2, trivial⟩
    simp only [hd, if_true]
    have hwx := hX.wx
    have hren : rens (pR 17 (List.map (fun x : Nat × AObj => x.1) ([] : List (Nat × AObj))) (fun b => b) 17) ((⟨0, 9, w2, wt, 0, xb, 0, mo xn, newB (mo xn) lk⟩ : SS).X to lk .nilFunc 0 xb 0 (mo xn) bpx) = (⟨0, 9, w2, wt, 0, xb, 0, mo xn, newB (mo xn) lk⟩ : SS).X to lk .nilFunc 0 xb 0 (mo xn) bpx := by
      show [AV.nilFunc, _, _, _, _, _, _, _, _, _, bpx.ren _] = _
      rw [hbpn.2]
      rfl
    have hnm : namess (pN 17 (List.map (fun x : Nat × AObj => x.1) ([] : List (Nat × AObj)))) ((⟨0, 9, w2, wt, 0, xb, 0, mo xn, newB (mo xn) lk⟩ : SS).X to lk .nilFunc 0 xb 0 (mo xn) bpx) = true := by
      refine namess_sub (fun b hb => ?_) (show namess (fun b => Nat.blt b 17) ((⟨0, 9, w2, wt, 0, xb, 0, mo xn, newB (mo xn) lk⟩ : SS).X to lk .nilFunc 0 xb 0 (mo xn) bpx) = true from ?_)
      · unfold pN; rw [hb]; rfl
      · show (true && (true && (true && (true && (true && (true && (true && (true && (true && (true && (bpx.names (fun b => Nat.blt b 17) && true))))))))))) = true
        rw [hbpn.1]; rfl
    have hwx2 : WX (⟨0, 9, w2, wt, 0, xb, 0, mo xn, newB (mo xn) lk⟩ : SS) 13 bpx (O6 o13 o15 o16 (.cells false []) (.cells false []) (.cells false [])) := by
      unfold WX at hwx ⊢
      rw [if_neg (by simp [SS.live])] at hwx ⊢
      rcases hwx with h | ⟨_, h1, h2⟩
      · exact .inl h
      · exact .inr ⟨.inl rfl, h1, h2⟩
    have fin := mkX (m' := m.cas aP w w2) (xc := (⟨0, 9, w2, wt, 0, xb, 0, mo xn, newB (mo xn) lk⟩ : SS).X to lk .nilFunc 0 xb 0 (mo xn) bpx) (o13' := o13) (o15' := o15) (o16' := o16) k11 k7 k8 k13 k15 k16 kG h13 h15 h16 hx0 ([] : List (Nat × AObj)) hx rfl rfl rfl rfl rfl rfl (fun x hx => by cases hx) (by decide) hnm h13 h15 h16
    have fin := (show rens (pR 17 (List.map (fun x : Nat × AObj => x.1) ([] : List (Nat × AObj))) (fun b => b) 17) ((⟨0, 9, w2, wt, 0, xb, 0, mo xn, newB (mo xn) lk⟩ : SS).X to lk .nilFunc 0 xb 0 (mo xn) bpx) = (⟨0, 9, w2, wt, 0, xb, 0, mo xn, newB (mo xn) lk⟩ : SS).X to lk .nilFunc 0 xb 0 (mo xn) bpx from hren) ▸ fin
    exact ⟨.nilFunc, 0, xb, 0, (mo xn), bpx, 13, 15, 16, o13, o15, o16, (.cells false []), (.cells false []), (.cells false []), by simp, by simp, by simp, by decide, h13, h15, h16, hE, hE, hE, ⟨rfl, hwx2, fun h => by cases h⟩, Sound.ghost (.cells false []) (Sound.ghost (.cells false []) (Sound.ghost (.cells false []) (fin)))⟩
  · have hd0 : m.casd aP w = false := by simpa using hd
    rw [hd0] at hcas
    have hx := runX_sound mixed none_sound (x8_n to xa xb xc xn w 0 w2 0 0 0 0 0 0 0 0 0 0 0 0 0 lk (mlk lk) bpx (.cells false (m.C (.map 8))) (.cells false ((m.cas aP w w2).C (.map 8))) (mapO m.ms) (mapO (m.cas aP w w2).ms) o13 o15 o16 false 0 0 .nilPtr .nilPtr .nilPtr .nilPtr .nilPtr) ⟨q_inc xn hn, q_rem xn, phq hb (by omega) (by have := mo_lt xn; omega) hw2, hcas _ rfl rfl, trivial⟩
    simp only [hd0, Bool.false_eq_true, if_false]
    have hwx := hX.wx
    have hren : rens (pR 17 (List.map (fun x : Nat × AObj => x.1) ([] : List (Nat × AObj))) (fun b => b) 17) ((⟨0, 7, w, wt, xa, xb, xc, xn, br⟩ : SS).X to lk .nilFunc xa xb xc xn bpx) = (⟨0, 7, w, wt, xa, xb, xc, xn, br⟩ : SS).X to lk .nilFunc xa xb xc xn bpx := by
      show [AV.nilFunc, _, _, _, _, _, _, _, _, _, bpx.ren _] = _
      rw [hbpn.2]
      rfl
    have hnm : namess (pN 17 (List.map (fun x : Nat × AObj => x.1) ([] : List (Nat × AObj)))) ((⟨0, 7, w, wt, xa, xb, xc, xn, br⟩ : SS).X to lk .nilFunc xa xb xc xn bpx) = true := by
      refine namess_sub (fun b hb => ?_) (show namess (fun b => Nat.blt b 17) ((⟨0, 7, w, wt, xa, xb, xc, xn, br⟩ : SS).X to lk .nilFunc xa xb xc xn bpx) = true from ?_)
      · unfold pN; rw [hb]; rfl
      · show (true && (true && (true && (true && (true && (true && (true && (true && (true && (true && (bpx.names (fun b => Nat.blt b 17) && true))))))))))) = true
        rw [hbpn.1]; rfl
    have hwx2 : WX (⟨0, 7, w, wt, xa, xb, xc, xn, br⟩ : SS) 13 bpx (O6 o13 o15 o16 (.cells false []) (.cells false []) (.cells false [])) := by
      unfold WX at hwx ⊢
      rw [if_neg (by simp [SS.live])] at hwx ⊢
      rcases hwx with h | ⟨_, h1, h2⟩
      · exact .inl h
      · exact .inr ⟨.inl rfl, h1, h2⟩
    have fin := mkX (m' := m.cas aP w w2) (xc := (⟨0, 7, w, wt, xa, xb, xc, xn, br⟩ : SS).X to lk .nilFunc xa xb xc xn bpx) (o13' := o13) (o15' := o15) (o16' := o16) k11 k7 k8 k13 k15 k16 kG h13 h15 h16 hx0 ([] : List (Nat × AObj)) hx rfl rfl rfl rfl rfl rfl (fun x hx => by cases hx) (by decide) hnm h13 h15 h16
    have fin := (show rens (pR 17 (List.map (fun x : Nat × AObj => x.1) ([] : List (Nat × AObj))) (fun b => b) 17) ((⟨0, 7, w, wt, xa, xb, xc, xn, br⟩ : SS).X to lk .nilFunc xa xb xc xn bpx) = (⟨0, 7, w, wt, xa, xb, xc, xn, br⟩ : SS).X to lk .nilFunc xa xb xc xn bpx from hren) ▸ fin
    exact ⟨.nilFunc, xa, xb, xc, xn, bpx, 13, 15, 16, o13, o15, o16, (.cells false []), (.cells false []), (.cells false []), by simp, by simp, by simp, by decide, h13, h15, h16, hE, hE, hE, ⟨rfl, hwx2, fun h => by cases h⟩, Sound.ghost (.cells false []) (Sound.ghost (.cells false []) (Sound.ghost (.cells false []) (fin)))⟩
end
section
variable {w a b c n to xa xb xc xn : Nat} {wt lk : Int} {br : Br} {m : PM} {h : AH} {nxt bpx : AV} {o13 o15 o16 d1 d2 d3 : AObj}
theorem X_1 (hO : SS.Ok ⟨1, 4, w, wt, a, b, c, n, br⟩ to lk) (k11 : AS.get ⟨h, 17⟩ 11 = some (.cells false (SS.X ⟨1, 4, w, wt, a, b, c, n, br⟩ to lk nxt xa xb xc xn bpx))) (k7 : AS.get ⟨h, 17⟩ 7 = some (.cells false (m.C (.map 8)))) (k8 : AS.get ⟨h, 17⟩ 8 = some (mapO m.ms)) (k13 : AS.get ⟨h, 17⟩ 13 = some o13) (k15 : AS.get ⟨h, 17⟩ 15 = some o15) (k16 : AS.get ⟨h, 17⟩ 16 = some o16)
    (kG : ∀ x ∈ GF, ∃ ro, AS.get ⟨h, 17⟩ x.1 = some (.cells ro x.2)) (h13 : Lx o13) (h15 : Lx o15) (h16 : Lx o16) (hX : XS ⟨1, 4, w, wt, a, b, c, n, br⟩ to 13 15 16 nxt xa xb xc xn bpx (O6 o13 o15 o16 d1 d2 d3)) (hmv : ∀ a, getW m.ms a < 18446744073709551616) :
    XC to lk h (SS.step ⟨1, 4, w, wt, a, b, c, n, br⟩ to lk m) := by
  have ha : a ≤ 3 := hO.a
  have hb : b < 256 := hO.b
  have hc : c < 256 := hO.c
  have hn : n < 281474976710656 := hO.n
  have hto : to < 256 := hO.to
  have hE : Lx (.cells false []) := ⟨rfl, rfl⟩
  obtain ⟨hbp, hwt⟩ := wx_nil hX.wx rfl (show (1 : Nat) ≠ 0 by decide) (show (1 : Nat) ≠ 8 by decide)
  have hwt : wt = -1 := hwt
  subst hbp
  have e := hX.nx
  have e : nxt = .func (.func 42) [.ptr 11 0] [] := e
  subst e
  show XC to lk h (SS.one ⟨1, 4, w, wt, a, b, c, n, br⟩ to lk (getW m.ms aP), m.load aP)
  have hx0 : namess (fun b => Nat.blt b 17) (SS.X ⟨1, 4, w, wt, a, b, c, n, br⟩ to lk (.func (.func 42) [.ptr 11 0] []) xa xb xc xn .nilPtr) = true := rfl
  obtain ⟨v, hvv⟩ : ∃ v, getW m.ms aP = v := ⟨_, rfl⟩
  have hv : v < 18446744073709551616 := hvv ▸ hmv aP
  have hld : ∀ s : AS, s.get 7 = some (.cells false (m.C (.map 8))) → s.get 8 = some (mapO m.ms) → Sound Tryz.prog (.call 44 [.ptr 7 0, .agg (ak aP)] s) ⟨.ret, [.int .u64 (Int.ofNat v)], s.set 7 (.cells false ((m.load aP).C (.map 8)))⟩ := fun s j7 j8 => hvv ▸ pload_at j7 j8 aP
  rw [hvv]
  have hq := aspq v hv
  have hA : cz (v % 8) ≤ 3 := cz_lt _
  have hB8 : v / 8 % 8 < 256 := by omega
  have hC8 : v / 64 % 8 < 256 := by omega
  have hN : v / 65536 % 281474976710656 < 281474976710656 := Nat.mod_lt _ (by omega)
  unfold SS.one
  generalize cz (v % 8) = a2 at hq hA ⊢
  generalize v / 8 % 8 = b2n at hq hB8 ⊢
  generalize v / 64 % 8 = c2 at hq hC8 ⊢
  generalize v / 65536 % 281474976710656 = n2n at hq hN ⊢
  obtain ⟨q1, q2, q3, q4, hq4⟩ : ∃ q1 q2 q3 q4, bg4 a2 b2n c2 n2n to = (q1, q2, q3, q4) := ⟨_, _, _, _, rfl⟩
  by_cases hm : mayP a2 b2n c2 = true
  · by_cases h3 : a2 = 3
    · by_cases ht : c2 = to
      · rw [if_pos (by rw [hm]; simp [h3, ht])]
        have hx := runX_sound mixed none_sound (x1_6 to xa xb xc xn w v 0 0 a2 b2n c2 n2n 0 0 0 0 q1 q2 q3 q4 lk (mlk lk) .nilPtr (.cells false (m.C (.map 8))) (.cells false ((m.load aP).C (.map 8))) (mapO m.ms) (mapO m.ms) o13 o15 o16 false 0 0 .nilPtr .nilPtr .nilPtr .nilPtr .nilPtr) ⟨hld _ rfl rfl, hq, mayPq a2 b2n c2 n2n true hA hm, qeq a2 3 true (by simp [h3]), qeq c2 to true (by simp [ht]), mlkq lk, trivial⟩
        have fin := mkX (m' := m.load aP) (xc := (⟨6, 4, v, wt, a2, b2n, c2, n2n, newB n2n lk⟩ : SS).X to lk (.func (.func 89) [] [.ptr 20 0, .ptr 21 0]) a2 b2n c2 n2n (.ptr 22 0)) (o13' := o13) (o15' := o15) (o16' := o16) k11 k7 k8 k13 k15 k16 kG h13 h15 h16 hx0 ([(22, .cells false ((newB n2n lk).PO 0)), (20, B11), (21, BF 66)] : List (Nat × AObj)) hx rfl rfl rfl rfl rfl rfl (fun x hx => by
              simp only [List.mem_cons, List.not_mem_nil, or_false] at hx
              rcases hx with rfl | rfl | rfl
              · exact ⟨show 17 ≤ 22 by decide, rfl, ⟨rfl, rfl⟩⟩
              · exact ⟨show 17 ≤ 20 by decide, rfl, lx11⟩
              · exact ⟨show 17 ≤ 21 by decide, rfl, lxF _⟩
              ) (show [22, 20, 21].Nodup by decide) rfl h13 h15 h16
        have fin := (show rens (pR 17 (List.map (fun x : Nat × AObj => x.1) ([(22, .cells false ((newB n2n lk).PO 0)), (20, B11), (21, BF 66)] : List (Nat × AObj))) (fun b => b) 17) ((⟨6, 4, v, wt, a2, b2n, c2, n2n, newB n2n lk⟩ : SS).X to lk (.func (.func 89) [] [.ptr 20 0, .ptr 21 0]) a2 b2n c2 n2n (.ptr 22 0)) = (⟨6, 4, v, wt, a2, b2n, c2, n2n, newB n2n lk⟩ : SS).X to lk (.func (.func 89) [] [.ptr 18 0, .ptr 19 0]) a2 b2n c2 n2n (.ptr 17 0) from rfl) ▸ fin
        exact ⟨(.func (.func 89) [] [.ptr 18 0, .ptr 19 0]), a2, b2n, c2, n2n, (.ptr 17 0), 17, 18, 19, o13, o15, o16, .cells false ((newB n2n lk).PO 0), B11, BF 66, by simp, by simp, by simp, by decide, h13, h15, h16, ⟨rfl, rfl⟩, lx11, lxF _, ⟨⟨rfl, rfl, rfl⟩, ⟨rfl, rfl, hwt⟩, fun _ => ⟨rfl, rfl, rfl, rfl⟩⟩, fin⟩
      · have he : (begP a2 b2n c2 n2n to).2 ≠ 0 := begP_ne (by omega)
        rw [if_neg (by simp [ht]), if_neg he]
        have hx := runX_sound mixed none_sound (x1_c to xa xb xc xn w v 0 (begP a2 b2n c2 n2n to).2 a2 b2n c2 n2n 0 0 0 0 q1 q2 q3 q4 lk (mlk lk) .nilPtr (.cells false (m.C (.map 8))) (.cells false ((m.load aP).C (.map 8))) (mapO m.ms) (mapO m.ms) o13 o15 o16 false 0 0 .nilPtr .nilPtr .nilPtr .nilPtr .nilPtr) ⟨hld _ rfl rfl, hq, mayPq a2 b2n c2 n2n true hA hm, qeq a2 3 true (by simp [h3]), qeq c2 to false (by simp [ht]), beginq hA hN hq4, qne _ 0 true (by simp [he]), trivial⟩
        have fin := mkX (m' := m.load aP) (xc := (⟨0, (begP a2 b2n c2 n2n to).2, v, wt, a2, b2n, c2, n2n, br⟩ : SS).X to lk .nilFunc xa xb xc xn .nilPtr) (o13' := o13) (o15' := o15) (o16' := o16) k11 k7 k8 k13 k15 k16 kG h13 h15 h16 hx0 ([] : List (Nat × AObj)) hx rfl rfl rfl rfl rfl rfl (fun x hx => by cases hx) (by decide) rfl h13 h15 h16
        have fin := (show rens (pR 17 (List.map (fun x : Nat × AObj => x.1) ([] : List (Nat × AObj))) (fun b => b) 17) ((⟨0, (begP a2 b2n c2 n2n to).2, v, wt, a2, b2n, c2, n2n, br⟩ : SS).X to lk .nilFunc xa xb xc xn .nilPtr) = (⟨0, (begP a2 b2n c2 n2n to).2, v, wt, a2, b2n, c2, n2n, br⟩ : SS).X to lk .nilFunc xa xb xc xn .nilPtr from rfl) ▸ fin
        exact ⟨.nilFunc, xa, xb, xc, xn, .nilPtr, 13, 15, 16, o13, o15, o16, (.cells false []), (.cells false []), (.cells false []), by simp, by simp, by simp, by decide, h13, h15, h16, hE, hE, hE, ⟨rfl, .inl ⟨rfl, hwt⟩, fun h => by cases h⟩, Sound.ghost (.cells false []) (Sound.ghost (.cells false []) (Sound.ghost (.cells false []) (fin)))⟩
    · by_cases he : (begP a2 b2n c2 n2n to).2 = 0
      · rw [if_neg (by simp [h3]), if_pos he]
        have hx := runX_sound mixed none_sound (x1_2 to xa xb xc xn w v 0 (begP a2 b2n c2 n2n to).2 a2 b2n c2 n2n 0 0 0 0 q1 q2 q3 q4 lk (mlk lk) .nilPtr (.cells false (m.C (.map 8))) (.cells false ((m.load aP).C (.map 8))) (mapO m.ms) (mapO m.ms) o13 o15 o16 false 0 0 .nilPtr .nilPtr .nilPtr .nilPtr .nilPtr) ⟨hld _ rfl rfl, hq, mayPq a2 b2n c2 n2n true hA hm, qeq a2 3 false (by simp [h3]), beginq hA hN hq4, qne _ 0 false (by simp [he]), trivial⟩
        have hqb : AObj.cells false (phC q1 q2 q3 q4) = .cells false (begP a2 b2n c2 n2n to).1 := by rw [bg4_C, hq4]
        have fin := mkX (m' := m.load aP) (xc := (⟨2, 4, v, wt, a2, b2n, c2, n2n, br⟩ : SS).X to lk (.func (.func 68) [] [.ptr 17 0, .ptr 20 0]) xa xb xc xn .nilPtr) (o13' := o13) (o15' := o15) (o16' := o16) k11 k7 k8 k13 k15 k16 kG h13 h15 h16 hx0 ([(19, .cells false (phC a2 b2n c2 n2n)), (17, B11), (20, .cells false (phC q1 q2 q3 q4))] : List (Nat × AObj)) hx rfl rfl rfl rfl rfl rfl (fun x hx => by
              simp only [List.mem_cons, List.not_mem_nil, or_false] at hx
              rcases hx with rfl | rfl | rfl
              · exact ⟨show 17 ≤ 19 by decide, rfl, ⟨rfl, rfl⟩⟩
              · exact ⟨show 17 ≤ 17 by decide, rfl, lx11⟩
              · exact ⟨show 17 ≤ 20 by decide, rfl, ⟨rfl, rfl⟩⟩
              ) (show [19, 17, 20].Nodup by decide) rfl h13 h15 h16
        have fin := (show rens (pR 17 (List.map (fun x : Nat × AObj => x.1) ([(19, .cells false (phC a2 b2n c2 n2n)), (17, B11), (20, .cells false (phC q1 q2 q3 q4))] : List (Nat × AObj))) (fun b => b) 17) ((⟨2, 4, v, wt, a2, b2n, c2, n2n, br⟩ : SS).X to lk (.func (.func 68) [] [.ptr 17 0, .ptr 20 0]) xa xb xc xn .nilPtr) = (⟨2, 4, v, wt, a2, b2n, c2, n2n, br⟩ : SS).X to lk (.func (.func 68) [] [.ptr 18 0, .ptr 19 0]) xa xb xc xn .nilPtr from rfl) ▸ fin
        exact ⟨(.func (.func 68) [] [.ptr 18 0, .ptr 19 0]), xa, xb, xc, xn, .nilPtr, 13, 18, 19, o13, o15, o16, .cells false (phC a2 b2n c2 n2n), B11, .cells false (phC q1 q2 q3 q4), by simp, by simp, by simp, by decide, h13, h15, h16, ⟨rfl, rfl⟩, lx11, ⟨rfl, rfl⟩, ⟨⟨rfl, rfl, hqb⟩, .inl ⟨rfl, hwt⟩, fun h => absurd h (show ¬ 3 ≤ 2 by decide)⟩, fin⟩
      · rw [if_neg (by simp [h3]), if_neg he]
        have hx := runX_sound mixed none_sound (x1_b to xa xb xc xn w v 0 (begP a2 b2n c2 n2n to).2 a2 b2n c2 n2n 0 0 0 0 q1 q2 q3 q4 lk (mlk lk) .nilPtr (.cells false (m.C (.map 8))) (.cells false ((m.load aP).C (.map 8))) (mapO m.ms) (mapO m.ms) o13 o15 o16 false 0 0 .nilPtr .nilPtr .nilPtr .nilPtr .nilPtr) ⟨hld _ rfl rfl, hq, mayPq a2 b2n c2 n2n true hA hm, qeq a2 3 false (by simp [h3]), beginq hA hN hq4, qne _ 0 true (by simp [he]), trivial⟩
        have fin := mkX (m' := m.load aP) (xc := (⟨0, (begP a2 b2n c2 n2n to).2, v, wt, a2, b2n, c2, n2n, br⟩ : SS).X to lk .nilFunc xa xb xc xn .nilPtr) (o13' := o13) (o15' := o15) (o16' := o16) k11 k7 k8 k13 k15 k16 kG h13 h15 h16 hx0 ([] : List (Nat × AObj)) hx rfl rfl rfl rfl rfl rfl (fun x hx => by cases hx) (by decide) rfl h13 h15 h16
        have fin := (show rens (pR 17 (List.map (fun x : Nat × AObj => x.1) ([] : List (Nat × AObj))) (fun b => b) 17) ((⟨0, (begP a2 b2n c2 n2n to).2, v, wt, a2, b2n, c2, n2n, br⟩ : SS).X to lk .nilFunc xa xb xc xn .nilPtr) = (⟨0, (begP a2 b2n c2 n2n to).2, v, wt, a2, b2n, c2, n2n, br⟩ : SS).X to lk .nilFunc xa xb xc xn .nilPtr from rfl) ▸ fin
        exact ⟨.nilFunc, xa, xb, xc, xn, .nilPtr, 13, 15, 16, o13, o15, o16, (.cells false []), (.cells false []), (.cells false []), by simp, by simp, by simp, by decide, h13, h15, h16, hE, hE, hE, ⟨rfl, .inl ⟨rfl, hwt⟩, fun h => by cases h⟩, Sound.ghost (.cells false []) (Sound.ghost (.cells false []) (Sound.ghost (.cells false []) (fin)))⟩
  · have hm0 : mayP a2 b2n c2 = false := by simpa using hm
    have he : (begP a2 b2n c2 n2n to).2 ≠ 0 := begP_may hm0
    rw [if_neg (by simp [hm0]), if_neg he]
    have hx := runX_sound mixed none_sound (x1_a to xa xb xc xn w v 0 (begP a2 b2n c2 n2n to).2 a2 b2n c2 n2n 0 0 0 0 q1 q2 q3 q4 lk (mlk lk) .nilPtr (.cells false (m.C (.map 8))) (.cells false ((m.load aP).C (.map 8))) (mapO m.ms) (mapO m.ms) o13 o15 o16 false 0 0 .nilPtr .nilPtr .nilPtr .nilPtr .nilPtr) ⟨hld _ rfl rfl, hq, mayPq a2 b2n c2 n2n false hA hm0, beginq hA hN hq4, qne _ 0 true (by simp [he]), trivial⟩
    have fin := mkX (m' := m.load aP) (xc := (⟨0, (begP a2 b2n c2 n2n to).2, v, wt, a2, b2n, c2, n2n, br⟩ : SS).X to lk .nilFunc xa xb xc xn .nilPtr) (o13' := o13) (o15' := o15) (o16' := o16) k11 k7 k8 k13 k15 k16 kG h13 h15 h16 hx0 ([] : List (Nat × AObj)) hx rfl rfl rfl rfl rfl rfl (fun x hx => by cases hx) (by decide) rfl h13 h15 h16
    have fin := (show rens (pR 17 (List.map (fun x : Nat × AObj => x.1) ([] : List (Nat × AObj))) (fun b => b) 17) ((⟨0, (begP a2 b2n c2 n2n to).2, v, wt, a2, b2n, c2, n2n, br⟩ : SS).X to lk .nilFunc xa xb xc xn .nilPtr) = (⟨0, (begP a2 b2n c2 n2n to).2, v, wt, a2, b2n, c2, n2n, br⟩ : SS).X to lk .nilFunc xa xb xc xn .nilPtr from rfl) ▸ fin
    exact ⟨.nilFunc, xa, xb, xc, xn, .nilPtr, 13, 15, 16, o13, o15, o16, (.cells false []), (.cells false []), (.cells false []), by simp, by simp, by simp, by decide, h13, h15, h16, hE, hE, hE, ⟨rfl, .inl ⟨rfl, hwt⟩, fun h => by cases h⟩, Sound.ghost (.cells false []) (Sound.ghost (.cells false []) (Sound.ghost (.cells false []) (fin)))⟩
theorem X_3 (hO : SS.Ok ⟨3, 4, w, wt, a, b, c, n, br⟩ to lk) (k11 : AS.get ⟨h, 17⟩ 11 = some (.cells false (SS.X ⟨3, 4, w, wt, a, b, c, n, br⟩ to lk nxt xa xb xc xn bpx))) (k7 : AS.get ⟨h, 17⟩ 7 = some (.cells false (m.C (.map 8)))) (k8 : AS.get ⟨h, 17⟩ 8 = some (mapO m.ms)) (k13 : AS.get ⟨h, 17⟩ 13 = some o13) (k15 : AS.get ⟨h, 17⟩ 15 = some o15) (k16 : AS.get ⟨h, 17⟩ 16 = some o16)
    (kG : ∀ x ∈ GF, ∃ ro, AS.get ⟨h, 17⟩ x.1 = some (.cells ro x.2)) (h13 : Lx o13) (h15 : Lx o15) (h16 : Lx o16) (hX : XS ⟨3, 4, w, wt, a, b, c, n, br⟩ to 13 15 16 nxt xa xb xc xn bpx (O6 o13 o15 o16 d1 d2 d3)) (hmv : ∀ a, getW m.ms a < 18446744073709551616) :
    XC to lk h (SS.step ⟨3, 4, w, wt, a, b, c, n, br⟩ to lk m) := by
  have ha : a ≤ 3 := hO.a
  have hb : b < 256 := hO.b
  have hc : c < 256 := hO.c
  have hn : n < 281474976710656 := hO.n
  have hto : to < 256 := hO.to
  have hE : Lx (.cells false []) := ⟨rfl, rfl⟩
  obtain ⟨rfl, t13, hwt⟩ := wx_live hX.wx rfl
  have e13 : o13 = .cells false (br.PO 0) := t13
  obtain ⟨rfl, t15, t16⟩ := hX.nx
  have e15 : o15 = B11 := t15
  have e16 : o16 = BF 70 := t16
  obtain ⟨rfl, rfl, rfl, rfl⟩ := hX.px (show (3 : Nat) ≤ 3 by decide)
  clear t13 t15 t16 hX
  subst e13
  subst e15
  subst e16
  have hB : br.Ok := hO.br rfl
  have hbar := fun (s : AS) (j13 : s.get 13 = some (.cells false (br.PO 0))) (j7 : s.get 7 = some (.cells false (m.C (.map 8)))) (j8 : s.get 8 = some (mapO m.ms)) (j1 : s.get 1 = some (.cells true wfB)) => barP_at hB (hmv br.adr) j13 j7 j8 j1
  show XC to lk h (SS.bar ⟨3, 4, w, wt, xa, xb, xc, xn, br⟩ (br.step (getW m.ms br.adr)), m.load br.adr)
  have hx0 : namess (fun b => Nat.blt b 17) (SS.X ⟨3, 4, w, wt, xa, xb, xc, xn, br⟩ to lk (.func (.func 89) [] [.ptr 15 0, .ptr 16 0]) xa xb xc xn (.ptr 13 0)) = true := rfl
  have hk := step_k br (getW m.ms br.adr)
  have hw1 := step_wt br (getW m.ms br.adr)
  obtain ⟨b', k, hbk⟩ : ∃ b' k, br.step (getW m.ms br.adr) = (b', k) := ⟨_, _, rfl⟩
  rw [hbk] at hk hw1 ⊢
  simp only [hbk] at hbar
  have hk : k = 0 ∨ k = 1 ∨ k = 2 := hk
  have hw1 : k = 1 → b'.wt = -1 := hw1
  rcases hk with rfl | rfl | rfl
  · have hx := runX_sound mixed none_sound (x3_c to xa xb xc xn w 0 0 0 0 0 0 0 0 0 0 0 0 0 0 0 lk 0 .nilPtr (.cells false (m.C (.map 8))) (.cells false ((m.load br.adr).C (.map 8))) (mapO m.ms) (mapO m.ms) (.cells false (br.PO 0)) B11 (BF 70) false b'.wt (Int.ofNat 0) (.int .u64 (Int.ofNat b'.num)) (.int .i64 (mlk b'.lk)) (.int .i64 (Int.ofNat b'.th)) (.int .i64 (Int.ofNat b'.all)) (.int .i64 (Int.ofNat b'.at_ - 1))) ⟨hbar _ rfl rfl rfl rfl, trivial⟩
    have fin := mkX (m' := m.load br.adr) (xc := (⟨3, 4, w, b'.wt, xa, xb, xc, xn, b'⟩ : SS).X to lk (.func (.func 89) [] [.ptr 15 0, .ptr 16 0]) xa xb xc xn (.ptr 13 0)) (o13' := (.cells false (b'.PO 0))) (o15' := B11) (o16' := (BF 70)) k11 k7 k8 k13 k15 k16 kG h13 h15 h16 hx0 ([] : List (Nat × AObj)) hx rfl rfl rfl rfl rfl rfl (fun x hx => by cases hx) (by decide) rfl ⟨rfl, rfl⟩ lx11 (lxF _)
    have fin := (show rens (pR 17 (List.map (fun x : Nat × AObj => x.1) ([] : List (Nat × AObj))) (fun b => b) 17) ((⟨3, 4, w, b'.wt, xa, xb, xc, xn, b'⟩ : SS).X to lk (.func (.func 89) [] [.ptr 15 0, .ptr 16 0]) xa xb xc xn (.ptr 13 0)) = (⟨3, 4, w, b'.wt, xa, xb, xc, xn, b'⟩ : SS).X to lk (.func (.func 89) [] [.ptr 15 0, .ptr 16 0]) xa xb xc xn (.ptr 13 0) from rfl) ▸ fin
    exact ⟨(.func (.func 89) [] [.ptr 15 0, .ptr 16 0]), xa, xb, xc, xn, (.ptr 13 0), 13, 15, 16, (.cells false (b'.PO 0)), B11, (BF 70), (.cells false []), (.cells false []), (.cells false []), by simp, by simp, by simp, by decide, ⟨rfl, rfl⟩, lx11, (lxF _), hE, hE, hE, ⟨⟨rfl, rfl, rfl⟩, ⟨rfl, rfl, rfl⟩, fun _ => ⟨rfl, rfl, rfl, rfl⟩⟩, Sound.ghost (.cells false []) (Sound.ghost (.cells false []) (Sound.ghost (.cells false []) (fin)))⟩
  · have hx := runX_sound mixed none_sound (x3_o to xa xb xc xn w 0 0 0 0 0 0 0 0 0 0 0 0 0 0 0 lk 0 .nilPtr (.cells false (m.C (.map 8))) (.cells false ((m.load br.adr).C (.map 8))) (mapO m.ms) (mapO m.ms) (.cells false (br.PO 0)) B11 (BF 70) false b'.wt (Int.ofNat 0) (.int .u64 (Int.ofNat b'.num)) (.int .i64 (mlk b'.lk)) (.int .i64 (Int.ofNat b'.th)) (.int .i64 (Int.ofNat b'.all)) (.int .i64 (Int.ofNat 0))) ⟨hbar _ rfl rfl rfl rfl, by simp [Qst.ok], by simp [Qst.ok], trivial⟩
    have fin := mkX (m' := m.load br.adr) (xc := (⟨4, 4, w, b'.wt, xa, xb, xc, xn, b'⟩ : SS).X to lk (.func (.func 96) [] [.ptr 17 0]) xa xb xc xn .nilPtr) (o13' := (.cells false (b'.PO 1))) (o15' := B11) (o16' := (BF 70)) k11 k7 k8 k13 k15 k16 kG h13 h15 h16 hx0 ([(17, B11)] : List (Nat × AObj)) hx rfl rfl rfl rfl rfl rfl (fun x hx => by
          simp only [List.mem_cons, List.not_mem_nil, or_false] at hx
          rcases hx with rfl
          · exact ⟨show 17 ≤ 17 by decide, rfl, lx11⟩
          ) (show [17].Nodup by decide) rfl ⟨rfl, rfl⟩ lx11 (lxF _)
    have fin := (show rens (pR 17 (List.map (fun x : Nat × AObj => x.1) ([(17, B11)] : List (Nat × AObj))) (fun b => b) 17) ((⟨4, 4, w, b'.wt, xa, xb, xc, xn, b'⟩ : SS).X to lk (.func (.func 96) [] [.ptr 17 0]) xa xb xc xn .nilPtr) = (⟨4, 4, w, b'.wt, xa, xb, xc, xn, b'⟩ : SS).X to lk (.func (.func 96) [] [.ptr 17 0]) xa xb xc xn .nilPtr from rfl) ▸ fin
    exact ⟨(.func (.func 96) [] [.ptr 17 0]), xa, xb, xc, xn, .nilPtr, 13, 17, 16, (.cells false (b'.PO 1)), B11, (BF 70), B11, (.cells false []), (.cells false []), by simp, by simp, by simp, by decide, ⟨rfl, rfl⟩, lx11, (lxF _), lx11, hE, hE, ⟨⟨rfl, rfl⟩, .inl ⟨rfl, hw1 rfl⟩, fun _ => ⟨rfl, rfl, rfl, rfl⟩⟩, Sound.ghost (.cells false []) (Sound.ghost (.cells false []) (fin))⟩
  · have hx := runX_sound mixed none_sound (x3_g to xa xb xc xn w 0 0 0 0 0 0 0 0 0 0 0 0 0 0 0 lk 0 .nilPtr (.cells false (m.C (.map 8))) (.cells false ((m.load br.adr).C (.map 8))) (mapO m.ms) (mapO m.ms) (.cells false (br.PO 0)) B11 (BF 70) false b'.wt (Int.ofNat 9) (.int .u64 (Int.ofNat b'.num)) (.int .i64 (Int.ofNat 0)) (.int .i64 (Int.ofNat b'.th)) (.int .i64 (Int.ofNat b'.all)) (.int .i64 (Int.ofNat 0))) ⟨hbar _ rfl rfl rfl rfl, by simp [Qst.ok], by simp [Qst.ok], trivial⟩
    have fin := mkX (m' := m.load br.adr) (xc := (⟨8, 4, w, b'.wt, xa, xb, xc, xn, b'⟩ : SS).X to lk (.func (.func 95) [.ptr 11 0] []) xa xb xc xn (.ptr 13 0)) (o13' := (.cells false (b'.PO 2))) (o15' := B11) (o16' := (BF 70)) k11 k7 k8 k13 k15 k16 kG h13 h15 h16 hx0 ([] : List (Nat × AObj)) hx rfl rfl rfl rfl rfl rfl (fun x hx => by cases hx) (by decide) rfl ⟨rfl, rfl⟩ lx11 (lxF _)
    have fin := (show rens (pR 17 (List.map (fun x : Nat × AObj => x.1) ([] : List (Nat × AObj))) (fun b => b) 17) ((⟨8, 4, w, b'.wt, xa, xb, xc, xn, b'⟩ : SS).X to lk (.func (.func 95) [.ptr 11 0] []) xa xb xc xn (.ptr 13 0)) = (⟨8, 4, w, b'.wt, xa, xb, xc, xn, b'⟩ : SS).X to lk (.func (.func 95) [.ptr 11 0] []) xa xb xc xn (.ptr 13 0) from rfl) ▸ fin
    exact ⟨(.func (.func 95) [.ptr 11 0] []), xa, xb, xc, xn, (.ptr 13 0), 13, 15, 16, (.cells false (b'.PO 2)), B11, (BF 70), (.cells false []), (.cells false []), (.cells false []), by simp, by simp, by simp, by decide, ⟨rfl, rfl⟩, lx11, (lxF _), hE, hE, hE, ⟨rfl, (.inr ⟨.inr rfl, rfl, b', rfl, rfl⟩), fun _ => ⟨rfl, rfl, rfl, rfl⟩⟩, Sound.ghost (.cells false []) (Sound.ghost (.cells false []) (Sound.ghost (.cells false []) (fin)))⟩
theorem X_6 (hO : SS.Ok ⟨6, 4, w, wt, a, b, c, n, br⟩ to lk) (k11 : AS.get ⟨h, 17⟩ 11 = some (.cells false (SS.X ⟨6, 4, w, wt, a, b, c, n, br⟩ to lk nxt xa xb xc xn bpx))) (k7 : AS.get ⟨h, 17⟩ 7 = some (.cells false (m.C (.map 8)))) (k8 : AS.get ⟨h, 17⟩ 8 = some (mapO m.ms)) (k13 : AS.get ⟨h, 17⟩ 13 = some o13) (k15 : AS.get ⟨h, 17⟩ 15 = some o15) (k16 : AS.get ⟨h, 17⟩ 16 = some o16)
    (kG : ∀ x ∈ GF, ∃ ro, AS.get ⟨h, 17⟩ x.1 = some (.cells ro x.2)) (h13 : Lx o13) (h15 : Lx o15) (h16 : Lx o16) (hX : XS ⟨6, 4, w, wt, a, b, c, n, br⟩ to 13 15 16 nxt xa xb xc xn bpx (O6 o13 o15 o16 d1 d2 d3)) (hmv : ∀ a, getW m.ms a < 18446744073709551616) :
    XC to lk h (SS.step ⟨6, 4, w, wt, a, b, c, n, br⟩ to lk m) := by
  have ha : a ≤ 3 := hO.a
  have hb : b < 256 := hO.b
  have hc : c < 256 := hO.c
  have hn : n < 281474976710656 := hO.n
  have hto : to < 256 := hO.to
  have hE : Lx (.cells false []) := ⟨rfl, rfl⟩
  obtain ⟨rfl, t13, hwt⟩ := wx_live hX.wx rfl
  have e13 : o13 = .cells false (br.PO 0) := t13
  obtain ⟨rfl, t15, t16⟩ := hX.nx
  have e15 : o15 = B11 := t15
  have e16 : o16 = BF 66 := t16
  obtain ⟨rfl, rfl, rfl, rfl⟩ := hX.px (show (3 : Nat) ≤ 6 by decide)
  clear t13 t15 t16 hX
  subst e13
  subst e15
  subst e16
  have hB : br.Ok := hO.br rfl
  have hbar := fun (s : AS) (j13 : s.get 13 = some (.cells false (br.PO 0))) (j7 : s.get 7 = some (.cells false (m.C (.map 8)))) (j8 : s.get 8 = some (mapO m.ms)) (j1 : s.get 1 = some (.cells true wfB)) => barP_at hB (hmv br.adr) j13 j7 j8 j1
  show XC to lk h (SS.bar ⟨6, 4, w, wt, xa, xb, xc, xn, br⟩ (br.step (getW m.ms br.adr)), m.load br.adr)
  have hx0 : namess (fun b => Nat.blt b 17) (SS.X ⟨6, 4, w, wt, xa, xb, xc, xn, br⟩ to lk (.func (.func 89) [] [.ptr 15 0, .ptr 16 0]) xa xb xc xn (.ptr 13 0)) = true := rfl
  have hk := step_k br (getW m.ms br.adr)
  have hw1 := step_wt br (getW m.ms br.adr)
  obtain ⟨b', k, hbk⟩ : ∃ b' k, br.step (getW m.ms br.adr) = (b', k) := ⟨_, _, rfl⟩
  rw [hbk] at hk hw1 ⊢
  simp only [hbk] at hbar
  have hk : k = 0 ∨ k = 1 ∨ k = 2 := hk
  have hw1 : k = 1 → b'.wt = -1 := hw1
  rcases hk with rfl | rfl | rfl
  · have hx := runX_sound mixed none_sound (x6_c to xa xb xc xn w 0 0 0 0 0 0 0 0 0 0 0 0 0 0 0 lk 0 .nilPtr (.cells false (m.C (.map 8))) (.cells false ((m.load br.adr).C (.map 8))) (mapO m.ms) (mapO m.ms) (.cells false (br.PO 0)) B11 (BF 66) false b'.wt (Int.ofNat 0) (.int .u64 (Int.ofNat b'.num)) (.int .i64 (mlk b'.lk)) (.int .i64 (Int.ofNat b'.th)) (.int .i64 (Int.ofNat b'.all)) (.int .i64 (Int.ofNat b'.at_ - 1))) ⟨hbar _ rfl rfl rfl rfl, trivial⟩
    have fin := mkX (m' := m.load br.adr) (xc := (⟨6, 4, w, b'.wt, xa, xb, xc, xn, b'⟩ : SS).X to lk (.func (.func 89) [] [.ptr 15 0, .ptr 16 0]) xa xb xc xn (.ptr 13 0)) (o13' := (.cells false (b'.PO 0))) (o15' := B11) (o16' := (BF 66)) k11 k7 k8 k13 k15 k16 kG h13 h15 h16 hx0 ([] : List (Nat × AObj)) hx rfl rfl rfl rfl rfl rfl (fun x hx => by cases hx) (by decide) rfl ⟨rfl, rfl⟩ lx11 (lxF _)
    have fin := (show rens (pR 17 (List.map (fun x : Nat × AObj => x.1) ([] : List (Nat × AObj))) (fun b => b) 17) ((⟨6, 4, w, b'.wt, xa, xb, xc, xn, b'⟩ : SS).X to lk (.func (.func 89) [] [.ptr 15 0, .ptr 16 0]) xa xb xc xn (.ptr 13 0)) = (⟨6, 4, w, b'.wt, xa, xb, xc, xn, b'⟩ : SS).X to lk (.func (.func 89) [] [.ptr 15 0, .ptr 16 0]) xa xb xc xn (.ptr 13 0) from rfl) ▸ fin
    exact ⟨(.func (.func 89) [] [.ptr 15 0, .ptr 16 0]), xa, xb, xc, xn, (.ptr 13 0), 13, 15, 16, (.cells false (b'.PO 0)), B11, (BF 66), (.cells false []), (.cells false []), (.cells false []), by simp, by simp, by simp, by decide, ⟨rfl, rfl⟩, lx11, (lxF _), hE, hE, hE, ⟨⟨rfl, rfl, rfl⟩, ⟨rfl, rfl, rfl⟩, fun _ => ⟨rfl, rfl, rfl, rfl⟩⟩, Sound.ghost (.cells false []) (Sound.ghost (.cells false []) (Sound.ghost (.cells false []) (fin)))⟩
  · have hx := runX_sound mixed none_sound (x6_o to xa xb xc xn w 0 0 0 0 0 0 0 0 0 0 0 0 0 0 0 lk 0 .nilPtr (.cells false (m.C (.map 8))) (.cells false ((m.load br.adr).C (.map 8))) (mapO m.ms) (mapO m.ms) (.cells false (br.PO 0)) B11 (BF 66) false b'.wt (Int.ofNat 0) (.int .u64 (Int.ofNat b'.num)) (.int .i64 (mlk b'.lk)) (.int .i64 (Int.ofNat b'.th)) (.int .i64 (Int.ofNat b'.all)) (.int .i64 (Int.ofNat 0))) ⟨hbar _ rfl rfl rfl rfl, by simp [Qst.ok], by simp [Qst.ok], trivial⟩
    have fin := mkX (m' := m.load br.adr) (xc := (⟨7, 4, w, b'.wt, xa, xb, xc, xn, b'⟩ : SS).X to lk (.func (.func 92) [] [.ptr 17 0]) xa xb xc xn .nilPtr) (o13' := (.cells false (b'.PO 1))) (o15' := B11) (o16' := (BF 66)) k11 k7 k8 k13 k15 k16 kG h13 h15 h16 hx0 ([(17, B11)] : List (Nat × AObj)) hx rfl rfl rfl rfl rfl rfl (fun x hx => by
          simp only [List.mem_cons, List.not_mem_nil, or_false] at hx
          rcases hx with rfl
          · exact ⟨show 17 ≤ 17 by decide, rfl, lx11⟩
          ) (show [17].Nodup by decide) rfl ⟨rfl, rfl⟩ lx11 (lxF _)
    have fin := (show rens (pR 17 (List.map (fun x : Nat × AObj => x.1) ([(17, B11)] : List (Nat × AObj))) (fun b => b) 17) ((⟨7, 4, w, b'.wt, xa, xb, xc, xn, b'⟩ : SS).X to lk (.func (.func 92) [] [.ptr 17 0]) xa xb xc xn .nilPtr) = (⟨7, 4, w, b'.wt, xa, xb, xc, xn, b'⟩ : SS).X to lk (.func (.func 92) [] [.ptr 17 0]) xa xb xc xn .nilPtr from rfl) ▸ fin
    exact ⟨(.func (.func 92) [] [.ptr 17 0]), xa, xb, xc, xn, .nilPtr, 13, 17, 16, (.cells false (b'.PO 1)), B11, (BF 66), B11, (.cells false []), (.cells false []), by simp, by simp, by simp, by decide, ⟨rfl, rfl⟩, lx11, (lxF _), lx11, hE, hE, ⟨⟨rfl, rfl⟩, .inl ⟨rfl, hw1 rfl⟩, fun _ => ⟨rfl, rfl, rfl, rfl⟩⟩, Sound.ghost (.cells false []) (Sound.ghost (.cells false []) (fin))⟩
  · have hx := runX_sound mixed none_sound (x6_g to xa xb xc xn w 0 0 0 0 0 0 0 0 0 0 0 0 0 0 0 lk 0 .nilPtr (.cells false (m.C (.map 8))) (.cells false ((m.load br.adr).C (.map 8))) (mapO m.ms) (mapO m.ms) (.cells false (br.PO 0)) B11 (BF 66) false b'.wt (Int.ofNat 9) (.int .u64 (Int.ofNat b'.num)) (.int .i64 (Int.ofNat 0)) (.int .i64 (Int.ofNat b'.th)) (.int .i64 (Int.ofNat b'.all)) (.int .i64 (Int.ofNat 0))) ⟨hbar _ rfl rfl rfl rfl, by simp [Qst.ok], by simp [Qst.ok], trivial⟩
    have fin := mkX (m' := m.load br.adr) (xc := (⟨0, 9, w, b'.wt, xa, xb, xc, xn, b'⟩ : SS).X to lk .nilFunc xa xb xc xn (.ptr 13 0)) (o13' := (.cells false (b'.PO 2))) (o15' := B11) (o16' := (BF 66)) k11 k7 k8 k13 k15 k16 kG h13 h15 h16 hx0 ([] : List (Nat × AObj)) hx rfl rfl rfl rfl rfl rfl (fun x hx => by cases hx) (by decide) rfl ⟨rfl, rfl⟩ lx11 (lxF _)
    have fin := (show rens (pR 17 (List.map (fun x : Nat × AObj => x.1) ([] : List (Nat × AObj))) (fun b => b) 17) ((⟨0, 9, w, b'.wt, xa, xb, xc, xn, b'⟩ : SS).X to lk .nilFunc xa xb xc xn (.ptr 13 0)) = (⟨0, 9, w, b'.wt, xa, xb, xc, xn, b'⟩ : SS).X to lk .nilFunc xa xb xc xn (.ptr 13 0) from rfl) ▸ fin
    exact ⟨.nilFunc, xa, xb, xc, xn, (.ptr 13 0), 13, 15, 16, (.cells false (b'.PO 2)), B11, (BF 66), (.cells false []), (.cells false []), (.cells false []), by simp, by simp, by simp, by decide, ⟨rfl, rfl⟩, lx11, (lxF _), hE, hE, hE, ⟨rfl, (.inr ⟨.inl rfl, rfl, b', rfl, rfl⟩), fun h => by cases h⟩, Sound.ghost (.cells false []) (Sound.ghost (.cells false []) (Sound.ghost (.cells false []) (fin)))⟩
end
end Go.Proofs.YtchekpapgfojhaaGreatDoor.ctlsFallback
