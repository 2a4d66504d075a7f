/- A plain Switch. Conditions: those that each theorem names, and no others. -/
import Derived.Test.YtcnfblibfndepaaGreatDoorCover4
import Derived.Test.YtcnfblibfndepaaGreatDoorMini3
namespace Go.Proofs.YtcnfblibfndepaaGreatDoor.ctlsCover
open Go Go.Mini
/-! ### a Switch, plainly -/
def aP : A3 := (3, 0, 0)
structure SS where
  ln : Nat
  en : Nat
  w : Nat
  wt : Int
  a : Nat
  b : Nat
  c : Nat
  n : Nat
  br : Br
def SS.live (σ : SS) : Bool := σ.ln == 3 || σ.ln == 6
def newB (n : Nat) (lk : Int) : Br := ⟨n, lk, 0, 0, 0, -1⟩
def SS.swp (σ : SS) (lk : Int) (m : PM) (a b c n ln2 en2 : Nat) : SS × PM :=
  (if m.casd aP σ.w = true then ⟨ln2, en2, ofp a b c n, σ.wt, a, b, c, n, newB n lk⟩ else ⟨0, 7, σ.w, σ.wt, σ.a, σ.b, σ.c, σ.n, σ.br⟩, m.cas aP σ.w (ofp a b c n))
def nx4 (a b c n : Nat) : Nat × Nat × Nat × Nat := if mayP a b c = true ∧ a ≠ 0 then (if a = 1 then (2, b, c, mo n) else if a = 2 then (3, b, c, mo n) else (0, c, 0, mo n)) else (0, 0, 0, 0)
def bg4 (a b c n t : Nat) : Nat × Nat × Nat × Nat := if (begP a b c n t).2 = 0 then (1, b, t, mo n) else (0, 0, 0, 0)
theorem nx4_C (a b c n : Nat) : nextP a b c n = phC (nx4 a b c n).1 (nx4 a b c n).2.1 (nx4 a b c n).2.2.1 (nx4 a b c n).2.2.2 := by
  unfold nextP nx4
  split
  · split
    · rfl
    · split <;> rfl
  · rfl
theorem bg4_C (a b c n t : Nat) : (begP a b c n t).1 = phC (bg4 a b c n t).1 (bg4 a b c n t).2.1 (bg4 a b c n t).2.2.1 (bg4 a b c n t).2.2.2 := by
  unfold bg4 begP
  split
  · simp
  · split
    · simp
    · split <;> simp
def SS.one (σ : SS) (to : Nat) (lk : Int) (v : Nat) : SS :=
  if (mayP (cz (v % 8)) (v / 8 % 8) (v / 64 % 8) && decide (cz (v % 8) = 3) && decide (v / 64 % 8 = to)) = true then ⟨6, 4, v, σ.wt, cz (v % 8), v / 8 % 8, v / 64 % 8, v / 65536 % 281474976710656, newB (v / 65536 % 281474976710656) lk⟩
  else if (begP (cz (v % 8)) (v / 8 % 8) (v / 64 % 8) (v / 65536 % 281474976710656) to).2 = 0 then ⟨2, 4, v, σ.wt, cz (v % 8), v / 8 % 8, v / 64 % 8, v / 65536 % 281474976710656, σ.br⟩
  else ⟨0, (begP (cz (v % 8)) (v / 8 % 8) (v / 64 % 8) (v / 65536 % 281474976710656) to).2, v, σ.wt, cz (v % 8), v / 8 % 8, v / 64 % 8, v / 65536 % 281474976710656, σ.br⟩
def SS.bar (σ : SS) (r : Br × Nat) : SS :=
  if r.2 = 0 then ⟨σ.ln, 4, σ.w, r.1.wt, σ.a, σ.b, σ.c, σ.n, r.1⟩ else if r.2 = 1 then ⟨σ.ln + 1, 4, σ.w, r.1.wt, σ.a, σ.b, σ.c, σ.n, r.1⟩
  else if σ.ln = 3 then ⟨8, 4, σ.w, r.1.wt, σ.a, σ.b, σ.c, σ.n, r.1⟩ else ⟨0, 9, σ.w, r.1.wt, σ.a, σ.b, σ.c, σ.n, r.1⟩
/-- One step. -/
def SS.step (σ : SS) (to : Nat) (lk : Int) (m : PM) : SS × PM :=
  match σ.ln with
  | 1 => (σ.one to lk (getW m.ms aP), m.load aP)
  | 2 => σ.swp lk m (bg4 σ.a σ.b σ.c σ.n to).1 (bg4 σ.a σ.b σ.c σ.n to).2.1 (bg4 σ.a σ.b σ.c σ.n to).2.2.1 (bg4 σ.a σ.b σ.c σ.n to).2.2.2 3 4
  | 4 => σ.swp lk m (nx4 σ.a σ.b σ.c σ.n).1 (nx4 σ.a σ.b σ.c σ.n).2.1 (nx4 σ.a σ.b σ.c σ.n).2.2.1 (nx4 σ.a σ.b σ.c σ.n).2.2.2 5 4
  | 5 => σ.swp lk m (nx4 σ.a σ.b σ.c σ.n).1 (nx4 σ.a σ.b σ.c σ.n).2.1 (nx4 σ.a σ.b σ.c σ.n).2.2.1 (nx4 σ.a σ.b σ.c σ.n).2.2.2 6 4
  | 7 => σ.swp lk m (nx4 σ.a σ.b σ.c σ.n).1 (nx4 σ.a σ.b σ.c σ.n).2.1 (nx4 σ.a σ.b σ.c σ.n).2.2.1 (nx4 σ.a σ.b σ.c σ.n).2.2.2 0 0
  | 8 => σ.swp lk m 0 σ.b 0 (mo σ.n) 0 9
  | _ => (σ.bar (σ.br.step (getW m.ms σ.br.adr)), m.load σ.br.adr)
structure SS.Ok (σ : SS) (to : Nat) (lk : Int) : Prop where
  ln : 1 ≤ σ.ln ∧ σ.ln ≤ 8
  en : σ.en = 4
  w : σ.w < 18446744073709551616
  a : σ.a ≤ 3
  b : σ.b < 256
  c : σ.c < 256
  n : σ.n < 281474976710656
  to : to < 256
  br : σ.live = true → σ.br.Ok
def SS.Y (σ : SS) (to : Nat) (lk : Int) (bp : AV) : List AV := [.int .i64 (Int.ofNat σ.ln), .int .i64 (Int.ofNat σ.en), .int .i64 σ.wt, .int .u8 (Int.ofNat to), .int .i64 lk, .int .u64 (Int.ofNat σ.w), .int .u8 (Int.ofNat σ.a), .int .u8 (Int.ofNat σ.b), .int .u8 (Int.ofNat σ.c), .int .u64 (Int.ofNat σ.n), bp]
/-- What is so on a small heap is so where more stands, under the same names; new blocks come behind. -/
theorem extN {f : FuncId} {args : List AV} {r : AV} {bs0 : List (Nat × AObj)} {Fz : List (Nat × List AV)} {n0 nx0 : Nat} {s1 s : AS} {e : AExit} (h : Sound Tryz.prog (.call f args (canF bs0 Fz n0 nx0)) ⟨e, [r], s1⟩) (h3 : 3 ≤ nx0) (new : List Nat)
    (hF : ∀ x ∈ Fz, x.1 < nx0 ∧ x.1 ∉ bs0.map (·.1) ∧ namess (fun _ => false) x.2 = true ∧ ∃ ro, s.get x.1 = some (.cells ro x.2))
    (hb : eachX (fun b o => b < nx0 ∧ o.rw = true ∧ o.names (fun c => Nat.blt c nx0) = true ∧ getB bs0 b = some o ∧ s.get b = some o ∧ ((objAt s1 b).rw = true ∨ objAt s1 b = .dead) ∧ (objAt s1 b).names (pN nx0 new) = true) bs0)
    (hd : (bs0.map (·.1)).Nodup) (hn : new.Nodup) (hf : ∀ b ∈ new, nx0 ≤ b ∧ (objAt s1 b).rw = true ∧ (objAt s1 b).names (pN nx0 new) = true) (ha : namess (fun b => Nat.blt b nx0) args = true) (hr : r.names (fun _ => false) = true) :
    Sound Tryz.prog (.call f args s) ⟨.ret, [r], pushL (setL s ((bs0.map (·.1)).map fun b => (b, (objAt s1 b).ren (pR nx0 new (fun b => b) s.nx)))) (new.map fun b => (objAt s1 b).ren (pR nx0 new (fun b => b) s.nx))⟩ := by
  have := Sound.putFG h (fun b => b) (fun g hg => ⟨by rw [gl3] at hg; omega, rfl⟩) new s (fun x hx => ⟨(hF x hx).1, (hF x hx).2.1, (hF x hx).2.2.1, (hF x hx).2.2.2, fun b hb he => (hF x hx).2.1 (he ▸ hb)⟩) (eachX_imp hb fun x hx hh => ⟨hh.1, hh.2.1, hh.2.2.1, hh.2.2.2.1, by rw [oren_id]; exact hh.2.2.2.2.1, hh.2.2.2.2.2.1, hh.2.2.2.2.2.2⟩)
    (fun _ _ _ _ h => h) hd hn hf ha (names_sub (fun _ h => by cases h) hr)
  have hr' : r.ren (pR nx0 new (fun b => b) s.nx) = r := by rw [ren_congr (p := fun _ => false) (π' := fun b => b) (fun _ h => by cases h) hr, ren_id]
  rw [rens_id, hr'] at this
  exact this
end Go.Proofs.YtcnfblibfndepaaGreatDoor.ctlsCover
namespace Go.Proofs.YtcnfblibfndepaaGreatDoor.ctlsCover
open Go Go.Mini
/-! ### a step of the document's Switch is the plain one -/
def Bp0 (σ : SS) (bp : AV) (o14 : AObj) : Prop := Free o14 ∧ ((bp = .nilPtr ∧ σ.live = false) ∨ (bp = .ptr 14 0 ∧ (σ.live = true → o14 = .cells false (σ.br.RO 0))))
theorem Bp0.names {σ : SS} {bp : AV} {o14 : AObj} (h : Bp0 σ bp o14) : bp.names (fun b => Nat.blt b 17) = true := by
  rcases h.2 with ⟨rfl, _⟩ | ⟨rfl, _⟩ <;> rfl
theorem mo_lt (n : Nat) : mo n < 281474976710656 := Nat.mod_lt _ (by omega)
theorem nx4_lt {a b c n x1 x2 x3 x4 : Nat} (hb : b < 256) (hc : c < 256) (h : nx4 a b c n = (x1, x2, x3, x4)) : x1 ≤ 3 ∧ x2 < 256 ∧ x3 < 256 ∧ x4 < 281474976710656 := by
  have := mo_lt n
  unfold nx4 at h
  split at h
  · split at h
    · simp only [Prod.mk.injEq] at h
      omega
    · split at h <;> simp only [Prod.mk.injEq] at h <;> omega
  · simp only [Prod.mk.injEq] at h
    omega
theorem bg4_lt {a b c n t x1 x2 x3 x4 : Nat} (hb : b < 256) (ht : t < 256) (h : bg4 a b c n t = (x1, x2, x3, x4)) : x1 ≤ 3 ∧ x2 < 256 ∧ x3 < 256 ∧ x4 < 281474976710656 := by
  have := mo_lt n
  unfold bg4 at h
  split at h <;> simp only [Prod.mk.injEq] at h <;> omega
section
variable {to : Nat} {lk : Int} {m : PM} {h : AH} {bp : AV} {o10 o14 : AObj} {y0 : List AV} (k12 : AS.get ⟨h, 17⟩ 12 = some (.cells false y0)) (k9 : AS.get ⟨h, 17⟩ 9 = some (.cells false (m.C (LV m.ms 10)))) (k10 : AS.get ⟨h, 17⟩ 10 = some o10) (hr : RO m.ms o10) (k14 : AS.get ⟨h, 17⟩ 14 = some o14) (hf : Free o14) (hy0 : namess (fun b => Nat.blt b 17) y0 = true)
include k12 k9 k10 hr k14 hf hy0
end
section
variable {w a b c n to : Nat} {wt lk : Int} {br : Br} {m : PM} {h : AH} {bp : AV} {o10 o14 : AObj}

end
end Go.Proofs.YtcnfblibfndepaaGreatDoor.ctlsCover
namespace Go.Proofs.YtcnfblibfndepaaGreatDoor.ctlsCover
open Go Go.Mini
theorem step_k (b : Br) (v : Nat) : (b.step v).2 = 0 ∨ (b.step v).2 = 1 ∨ (b.step v).2 = 2 := by
  unfold Br.step
  split
  · split <;> simp
  · split
    · dsimp only
      split <;> simp
    · split
      · split <;> simp
      · simp
theorem begP_ne {a b c n t : Nat} (h : a ≠ 0) : (begP a b c n t).2 ≠ 0 := by
  unfold begP
  split
  · simp
  · first
    | simp
    | (rw [if_pos h]; simp)
theorem begP_may {a b c n t : Nat} (h : mayP a b c = false) : (begP a b c n t).2 ≠ 0 := by
  unfold begP
  rw [h]
  simp
section
variable {w a b c n to : Nat} {wt lk : Int} {br : Br} {m : PM} {h : AH} {bp : AV} {o10 o14 : AObj}
end
end Go.Proofs.YtcnfblibfndepaaGreatDoor.ctlsCover
namespace Go.Proofs.YtcnfblibfndepaaGreatDoor.ctlsCover
open Go Go.Mini
/-! ### a step of the program's Switch is the plain one -/
def Lx (o : AObj) : Prop := o.rw = true ∧ o.names (fun c => Nat.beq c 11) = true
theorem Lx.nm {o : AObj} (h : Lx o) {p : Nat → Bool} (hp : p 11 = true) : o.names p = true := onames_sub (fun c hc => by rw [Nat.eq_of_beq_eq_true hc]; exact hp) h.2
theorem Lx.ren {o : AObj} (h : Lx o) {π : Nat → Nat} (hp : π 11 = 11) : o.ren π = o := by rw [oren_congr (p := fun c => Nat.beq c 11) (π' := fun b => b) (fun c hc => by rw [Nat.eq_of_beq_eq_true hc]; exact hp) h.2, oren_id]
theorem Free.lx {o : AObj} (h : Free o) : Lx o := ⟨h.1, h.nm _⟩
def B11 : AObj := .cells false [.ptr 11 0]
theorem lx11 : Lx B11 := ⟨rfl, rfl⟩
def BF (f : FuncId) : AObj := .cells false [.func (.func f) [.ptr 11 0] []]
theorem lxF (f : FuncId) : Lx (BF f) := ⟨rfl, rfl⟩
def NX (σ : SS) (to n15 n16 : Nat) (nxt : AV) (O : Nat → AObj) : Prop := match σ.ln with
  | 0 => nxt = .nilFunc
  | 1 => nxt = .func (.func 29) [.ptr 11 0] []
  | 2 => nxt = .func (.func 60) [] [.ptr n15 0, .ptr n16 0] ∧ O n15 = B11 ∧ O n16 = .cells false (begP σ.a σ.b σ.c σ.n to).1
  | 3 => nxt = .func (.func 71) [] [.ptr n15 0, .ptr n16 0] ∧ O n15 = B11 ∧ O n16 = BF 62
  | 4 => nxt = .func (.func 78) [] [.ptr n15 0] ∧ O n15 = B11
  | 5 => nxt = .func (.func 79) [.ptr 11 0] []
  | 6 => nxt = .func (.func 71) [] [.ptr n15 0, .ptr n16 0] ∧ O n15 = B11 ∧ O n16 = BF 57
  | 7 => nxt = .func (.func 74) [] [.ptr n15 0] ∧ O n15 = B11
  | _ => nxt = .func (.func 77) [.ptr 11 0] []
def WX (σ : SS) (n13 : Nat) (bpx : AV) (O : Nat → AObj) : Prop :=
  if σ.live = true then bpx = .ptr n13 0 ∧ O n13 = .cells false (σ.br.PO 0) ∧ σ.wt = σ.br.wt
  else (bpx = .nilPtr ∧ σ.wt = -1) ∨ ((σ.ln = 0 ∨ σ.ln = 8) ∧ bpx = .ptr n13 0 ∧ ∃ b0 : Br, O n13 = .cells false (b0.PO 2) ∧ σ.wt = b0.wt)
structure XS (σ : SS) (to n13 n15 n16 : Nat) (nxt : AV) (xa xb xc xn : Nat) (bpx : AV) (O : Nat → AObj) : Prop where
  nx : NX σ to n15 n16 nxt O
  wx : WX σ n13 bpx O
  px : 3 ≤ σ.ln → xa = σ.a ∧ xb = σ.b ∧ xc = σ.c ∧ xn = σ.n
def SS.X (σ : SS) (to : Nat) (lk : Int) (nxt : AV) (xa xb xc xn : Nat) (bpx : AV) : List AV := [nxt, .int .i64 (Int.ofNat (if σ.ln = 0 then σ.en else 0)), .bool true, .int .u8 (Int.ofNat to), .int .i64 lk, .int .u64 (Int.ofNat σ.w), .int .u8 (Int.ofNat xa), .int .u8 (Int.ofNat xb), .int .u8 (Int.ofNat xc), .int .u64 (Int.ofNat xn), bpx]
def O6 (o13 o15 o16 p1 p2 p3 : AObj) (i : Nat) : AObj := if i = 13 then o13 else if i = 15 then o15 else if i = 16 then o16 else if i = 17 then p1 else if i = 18 then p2 else p3
def GF : List (Nat × List AV) := [(0, wfW), (1, wfB), (2, wfP)]
def XC (to : Nat) (lk : Int) (h : AH) (r : SS × PM) : Prop :=
  ∃ nxt xa xb xc xn bpx n13 n15 n16 o13 o15 o16 p1 p2 p3, (n13 = 13 ∨ n13 = 17) ∧ (n15 = 15 ∨ n15 = 17 ∨ n15 = 18) ∧ (n16 = 16 ∨ n16 = 19) ∧ n13 ≠ n15 ∧ Lx o13 ∧ Lx o15 ∧ Lx o16 ∧ Lx p1 ∧ Lx p2 ∧ Lx p3 ∧ XS r.1 to n13 n15 n16 nxt xa xb xc xn bpx (O6 o13 o15 o16 p1 p2 p3) ∧
    Sound Tryz.prog (.call 12 [.ptr 11 0, .ptr 7 0] ⟨h, 17⟩) ⟨.ret, [.bool (decide (r.1.ln = 0))], (((((((((⟨h, 17⟩ : AS).set 11 (.cells false (r.1.X to lk nxt xa xb xc xn bpx))).set 7 (.cells false (r.2.C (.map 8)))).set 8 (mapO r.2.ms)).set 13 o13).set 15 o15).set 16 o16).push p1).push p2).push p3⟩
theorem wx_nil {σ : SS} {n13 : Nat} {bpx : AV} {O : Nat → AObj} (h : WX σ n13 bpx O) (hl : σ.live = false) (h0 : σ.ln ≠ 0) (h8 : σ.ln ≠ 8) : bpx = .nilPtr ∧ σ.wt = -1 := by
  unfold WX at h
  rw [hl, if_neg (by simp)] at h
  rcases h with h | ⟨h, _⟩
  · exact h
  · omega
theorem wx_live {σ : SS} {n13 : Nat} {bpx : AV} {O : Nat → AObj} (h : WX σ n13 bpx O) (hl : σ.live = true) : bpx = .ptr n13 0 ∧ O n13 = .cells false (σ.br.PO 0) ∧ σ.wt = σ.br.wt := by
  unfold WX at h
  rw [if_pos hl] at h
  exact h
theorem step_wt (b : Br) (v : Nat) (h : (b.step v).2 = 1) : (b.step v).1.wt = -1 := by
  unfold Br.step at h ⊢
  split at h
  · rename_i h0
    rw [if_pos h0]
    split at h
    · rename_i h1
      rw [if_pos h1]
    · cases h
  · rename_i h0
    rw [if_neg h0]
    split at h
    · rename_i h1
      rw [if_pos h1]
    · rename_i h1
      rw [if_neg h1]
      split at h
      · rename_i h2
        rw [if_pos h2]
        split at h <;> cases h
      · cases h
theorem barP_at {b : Br} (hB : b.Ok) {m : PM} (hv : getW m.ms b.adr < 18446744073709551616) {s : AS} (k13 : s.get 13 = some (.cells false (b.PO 0))) (k7 : s.get 7 = some (.cells false (m.C (.map 8)))) (k8 : s.get 8 = some (mapO m.ms)) (k1 : s.get 1 = some (.cells true wfB)) :
    Sound Tryz.prog (.call 72 [.ptr 13 0, .ptr 7 0] s) ⟨.ret, [.bool (decide ((b.step (getW m.ms b.adr)).2 ≠ 0))], ((s.set 13 (.cells false ((b.step (getW m.ms b.adr)).1.PO (b.step (getW m.ms b.adr)).2))).set 7 (.cells false ((m.load b.adr).C (.map 8)))).set 8 (mapO m.ms)⟩ := by
  obtain ⟨s1, hx, j13, j7, j8⟩ := barP_small hB hv
  have e13 : objAt s1 13 = .cells false ((b.step (getW m.ms b.adr)).1.PO (b.step (getW m.ms b.adr)).2) := by simp [objAt, j13]
  have e7 : objAt s1 7 = .cells false ((m.load b.adr).C (.map 8)) := by simp [objAt, j7]
  have e8 : objAt s1 8 = mapO m.ms := by simp [objAt, j8]
  have := ext0 hx (by decide) (s := s) (fun x hx => by
      simp only [List.mem_singleton] at hx
      subst hx
      exact ⟨show 1 < 17 by decide, show 1 ∉ [13, 7, 8] by decide, rfl, true, k1⟩)
    ⟨⟨show 13 < 17 by decide, rfl, Br.PO_names _ _ _, rfl, k13, by rw [e13]; exact .inl rfl, by rw [e13]; exact Br.PO_names _ _ _⟩, ⟨show 7 < 17 by decide, rfl, rfl, rfl, k7, by rw [e7]; exact .inl rfl, by rw [e7]; rfl⟩,
      ⟨show 8 < 17 by decide, rfl, mapO_names _ _, rfl, k8, by rw [e8]; exact .inl rfl, by rw [e8]; exact mapO_names _ _⟩, trivial⟩
    (show [13, 7, 8].Nodup by decide) rfl rfl
  simp only [List.map_cons, List.map_nil, setL, e13, e7, e8] at this
  exact this
theorem aspq (v : Nat) (hv : v < 18446744073709551616) : (Qst.pure GW 27 [.int .u64 (Int.ofNat v)] (.agg (phC (cz (v % 8)) (v / 8 % 8) (v / 64 % 8) (v / 65536 % 281474976710656)))).ok Tryz.prog := fun s hG => asp_call v hv s hG
theorem nextq {a b c n x1 x2 x3 x4 : Nat} (ha : a ≤ 3) (hn : n < 281474976710656) (h : nx4 a b c n = (x1, x2, x3, x4)) : (Qst.pure GP 82 [.agg (phC a b c n)] (.tuple [.agg (phC x1 x2 x3 x4), .bool (mayP a b c && decide (a ≠ 0))])).ok Tryz.prog := fun s hG => by
  have := next_call a b c n ha hn s hG
  rw [nx4_C, h] at this
  exact this
theorem beginq {a b c n t x1 x2 x3 x4 : Nat} (ha : a ≤ 3) (hn : n < 281474976710656) (h : bg4 a b c n t = (x1, x2, x3, x4)) : (Qst.pure [] 58 [.agg (phC a b c n), .int .u8 (Int.ofNat t)] (.tuple [.agg (phC x1 x2 x3 x4), .int .i64 (Int.ofNat (begP a b c n t).2)])).ok Tryz.prog := fun s _ => by
  have := begin_call a b c n t ha hn s
  rw [bg4_C, h] at this
  exact this
theorem phq {a b c n w2 : Nat} (hb : b < 256) (hc : c < 256) (hn : n < 18446744073709551616) (h : ofp a b c n = w2) : (Qst.pure GW 18 [.agg (phC a b c n)] (.int .u64 (Int.ofNat w2))).ok Tryz.prog := fun s hG => h ▸ ph_call a b c n hb hc hn s hG
theorem mlkq (lk : Int) : some (AV.int .i64 (if 1 > lk then Int.ofNat 1 else lk)) = some (AV.int .i64 (mlk lk)) := rfl
section
variable {m : PM} {h : AH} {o13 o15 o16 : AObj} {x0 : List AV} (k11 : AS.get ⟨h, 17⟩ 11 = some (.cells false x0)) (k7 : AS.get ⟨h, 17⟩ 7 = some (.cells false (m.C (.map 8)))) (k8 : AS.get ⟨h, 17⟩ 8 = some (mapO m.ms)) (k13 : AS.get ⟨h, 17⟩ 13 = some o13) (k15 : AS.get ⟨h, 17⟩ 15 = some o15) (k16 : AS.get ⟨h, 17⟩ 16 = some o16)
  (kG : ∀ x ∈ GF, ∃ ro, AS.get ⟨h, 17⟩ x.1 = some (.cells ro x.2)) (h13 : Lx o13) (h15 : Lx o15) (h16 : Lx o16) (hx0 : namess (fun b => Nat.blt b 17) x0 = true)
include k11 k7 k8 k13 k15 k16 kG h13 h15 h16 hx0
theorem mkX {e : AExit} {s1 : AS} {xc : List AV} {m' : PM} {o13' o15' o16' : AObj} {r : Bool} (new : List (Nat × AObj)) (hx : Sound Tryz.prog (.call 12 [.ptr 11 0, .ptr 7 0] (canF [(11, .cells false x0), (7, .cells false (m.C (.map 8))), (8, mapO m.ms), (13, o13), (15, o15), (16, o16)] GF 9 17)) ⟨e, [.bool r], s1⟩)
    (j11 : s1.get 11 = some (.cells false xc)) (j7 : s1.get 7 = some (.cells false (m'.C (.map 8)))) (j8 : s1.get 8 = some (mapO m'.ms)) (j13 : s1.get 13 = some o13') (j15 : s1.get 15 = some o15') (j16 : s1.get 16 = some o16') (hnew : ∀ x ∈ new, 17 ≤ x.1 ∧ s1.get x.1 = some x.2 ∧ Lx x.2) (hnd : (new.map (·.1)).Nodup)
    (hy : namess (pN 17 (new.map (·.1))) xc = true) (l13 : Lx o13') (l15 : Lx o15') (l16 : Lx o16') :
    Sound Tryz.prog (.call 12 [.ptr 11 0, .ptr 7 0] ⟨h, 17⟩) ⟨.ret, [.bool r], pushL (((((((⟨h, 17⟩ : AS).set 11 (.cells false (rens (pR 17 (new.map (·.1)) (fun b => b) 17) xc))).set 7 (.cells false (m'.C (.map 8)))).set 8 (mapO m'.ms)).set 13 o13').set 15 o15').set 16 o16') (new.map (·.2))⟩ := by
  have e11 : objAt s1 11 = .cells false xc := by simp [objAt, j11]
  have e7 : objAt s1 7 = .cells false (m'.C (.map 8)) := by simp [objAt, j7]
  have e8 : objAt s1 8 = mapO m'.ms := by simp [objAt, j8]
  have e13 : objAt s1 13 = o13' := by simp [objAt, j13]
  have e15 : objAt s1 15 = o15' := by simp [objAt, j15]
  have e16 : objAt s1 16 = o16' := by simp [objAt, j16]
  have p11 : ∀ l, pN 17 l 11 = true := fun l => rfl
  have r11 : ∀ l, pR 17 l (fun b => b) 17 11 = 11 := fun l => rfl
  have := extN hx (by decide) (new.map (·.1)) (s := ⟨h, 17⟩) (fun x hx => by
      have hg := kG x hx
      simp only [GF, List.mem_cons, List.not_mem_nil, or_false] at hx
      rcases hx with rfl | rfl | rfl
      · exact ⟨show 0 < 17 by decide, show 0 ∉ [11, 7, 8, 13, 15, 16] by decide, rfl, hg⟩
      · exact ⟨show 1 < 17 by decide, show 1 ∉ [11, 7, 8, 13, 15, 16] by decide, rfl, hg⟩
      · exact ⟨show 2 < 17 by decide, show 2 ∉ [11, 7, 8, 13, 15, 16] by decide, rfl, hg⟩)
    ⟨⟨show 11 < 17 by decide, rfl, hx0, rfl, k11, by rw [e11]; exact .inl rfl, by rw [e11]; exact hy⟩, ⟨show 7 < 17 by decide, rfl, rfl, rfl, k7, by rw [e7]; exact .inl rfl, by rw [e7]; rfl⟩, ⟨show 8 < 17 by decide, rfl, mapO_names _ _, rfl, k8, by rw [e8]; exact .inl rfl, by rw [e8]; exact mapO_names _ _⟩,
      ⟨show 13 < 17 by decide, h13.1, h13.nm rfl, rfl, k13, by rw [e13]; exact .inl l13.1, by rw [e13]; exact l13.nm (p11 _)⟩, ⟨show 15 < 17 by decide, h15.1, h15.nm rfl, rfl, k15, by rw [e15]; exact .inl l15.1, by rw [e15]; exact l15.nm (p11 _)⟩, ⟨show 16 < 17 by decide, h16.1, h16.nm rfl, rfl, k16, by rw [e16]; exact .inl l16.1, by rw [e16]; exact l16.nm (p11 _)⟩, trivial⟩
    (show [11, 7, 8, 13, 15, 16].Nodup by decide) hnd (fun b hb => by
      obtain ⟨x, hx, rfl⟩ := List.mem_map.1 hb
      obtain ⟨g1, g2, g3⟩ := hnew x hx
      have e : objAt s1 x.1 = x.2 := by simp [objAt, g2]
      rw [e]
      exact ⟨g1, g3.1, g3.nm (p11 _)⟩) rfl rfl
  have en : ((new.map (·.1)).map fun b => (objAt s1 b).ren (pR 17 (new.map (·.1)) (fun b => b) 17)) = new.map (·.2) := by
    rw [List.map_map]
    refine List.map_congr_left fun x hx => ?_
    obtain ⟨g1, g2, g3⟩ := hnew x hx
    show (objAt s1 x.1).ren _ = _
    rw [show objAt s1 x.1 = x.2 from by simp [objAt, g2], g3.ren (r11 _)]
  have en' : ((new.map (·.1)).map fun b => (objAt s1 b).ren (pR 17 (new.map (·.1)) (fun b => b) (⟨h, 17⟩ : AS).nx)) = new.map (·.2) := en
  rw [en'] at this
  simp only [List.map_cons, List.map_nil, setL, e11, e7, e8, e13, e15, e16, l13.ren (r11 _), l15.ren (r11 _), l16.ren (r11 _)] at this
  have q7 : (AObj.cells false (m'.C (.map 8))).ren (pR 17 (new.map (·.1)) (fun b => b) 17) = .cells false (m'.C (.map 8)) := rfl
  have q8 : (mapO m'.ms).ren (pR 17 (new.map (·.1)) (fun b => b) 17) = mapO m'.ms := mapO_ren _ _
  have this : Sound Tryz.prog (.call 12 [.ptr 11 0, .ptr 7 0] ⟨h, 17⟩) ⟨.ret, [.bool r], pushL (((((((⟨h, 17⟩ : AS).set 11 (.cells false (rens (pR 17 (new.map (·.1)) (fun b => b) 17) xc))).set 7 ((AObj.cells false (m'.C (.map 8))).ren (pR 17 (new.map (·.1)) (fun b => b) 17))).set 8 ((mapO m'.ms).ren (pR 17 (new.map (·.1)) (fun b => b) 17))).set 13 o13').set 15 o15').set 16 o16') (new.map (·.2))⟩ := this
  rw [q7, q8] at this
  exact this
end
end Go.Proofs.YtcnfblibfndepaaGreatDoor.ctlsCover
