/- A Switch, plainly; the Switch of the document steps so. Conditions: those that each theorem names, and no others. -/
import Derived.Test.YtchekpapgfojhaaGreatDoorBack8
import Derived.Test.YtchekpapgfojhaaGreatDoorMini3
namespace Go.Proofs.YtchekpapgfojhaaGreatDoor.ctlsFallback
open Go Go.Mini
/-! ### a Switch, plainly -/
def aP : A3 := (3, 0, 0)
structure SS where
  ln : Nat
  en : Nat
  w : Nat
  wt : Int
  a : Nat
  b : Nat
  c : Nat
  n : Nat
  br : Br
def SS.live (σ : SS) : Bool := σ.ln == 3 || σ.ln == 6
def newB (n : Nat) (lk : Int) : Br := ⟨n, lk, 0, 0, 0, -1⟩
def SS.swp (σ : SS) (lk : Int) (m : PM) (a b c n ln2 en2 : Nat) : SS × PM :=
  (if m.casd aP σ.w = true then ⟨ln2, en2, ofp a b c n, σ.wt, a, b, c, n, newB n lk⟩ else ⟨0, 7, σ.w, σ.wt, σ.a, σ.b, σ.c, σ.n, σ.br⟩, m.cas aP σ.w (ofp a b c n))
def nx4 (a b c n : Nat) : Nat × Nat × Nat × Nat := if mayP a b c = true ∧ a ≠ 0 then (if a = 1 then (2, b, c, mo n) else if a = 2 then (3, b, c, mo n) else (0, c, 0, mo n)) else (0, 0, 0, 0)
def bg4 (a b c n t : Nat) : Nat × Nat × Nat × Nat := if (begP a b c n t).2 = 0 then (1, b, t, mo n) else (0, 0, 0, 0)
theorem nx4_C (a b c n : Nat) : nextP a b c n = phC (nx4 a b c n).1 (nx4 a b c n).2.1 (nx4 a b c n).2.2.1 (nx4 a b c n).2.2.2 := by
  unfold nextP nx4
  split
  · split
    · rfl
    · split <;> rfl
  · rfl
theorem bg4_C (a b c n t : Nat) : (begP a b c n t).1 = phC (bg4 a b c n t).1 (bg4 a b c n t).2.1 (bg4 a b c n t).2.2.1 (bg4 a b c n t).2.2.2 := by
  unfold bg4 begP
  split
  · simp
  · split
    · simp
    · split <;> simp
def SS.one (σ : SS) (to : Nat) (lk : Int) (v : Nat) : SS :=
  if (mayP (cz (v % 8)) (v / 8 % 8) (v / 64 % 8) && decide (cz (v % 8) = 3) && decide (v / 64 % 8 = to)) = true then ⟨6, 4, v, σ.wt, cz (v % 8), v / 8 % 8, v / 64 % 8, v / 65536 % 281474976710656, newB (v / 65536 % 281474976710656) lk⟩
  else if (begP (cz (v % 8)) (v / 8 % 8) (v / 64 % 8) (v / 65536 % 281474976710656) to).2 = 0 then ⟨2, 4, v, σ.wt, cz (v % 8), v / 8 % 8, v / 64 % 8, v / 65536 % 281474976710656, σ.br⟩
  else ⟨0, (begP (cz (v % 8)) (v / 8 % 8) (v / 64 % 8) (v / 65536 % 281474976710656) to).2, v, σ.wt, cz (v % 8), v / 8 % 8, v / 64 % 8, v / 65536 % 281474976710656, σ.br⟩
def SS.bar (σ : SS) (r : Br × Nat) : SS :=
  if r.2 = 0 then ⟨σ.ln, 4, σ.w, r.1.wt, σ.a, σ.b, σ.c, σ.n, r.1⟩ else if r.2 = 1 then ⟨σ.ln + 1, 4, σ.w, r.1.wt, σ.a, σ.b, σ.c, σ.n, r.1⟩
  else if σ.ln = 3 then ⟨8, 4, σ.w, r.1.wt, σ.a, σ.b, σ.c, σ.n, r.1⟩ else ⟨0, 9, σ.w, r.1.wt, σ.a, σ.b, σ.c, σ.n, r.1⟩
/-- One step. -/
def SS.step (σ : SS) (to : Nat) (lk : Int) (m : PM) : SS × PM :=
  match σ.ln with
  | 1 => (σ.one to lk (getW m.ms aP), m.load aP)
  | 2 => σ.swp lk m (bg4 σ.a σ.b σ.c σ.n to).1 (bg4 σ.a σ.b σ.c σ.n to).2.1 (bg4 σ.a σ.b σ.c σ.n to).2.2.1 (bg4 σ.a σ.b σ.c σ.n to).2.2.2 3 4
  | 4 => σ.swp lk m (nx4 σ.a σ.b σ.c σ.n).1 (nx4 σ.a σ.b σ.c σ.n).2.1 (nx4 σ.a σ.b σ.c σ.n).2.2.1 (nx4 σ.a σ.b σ.c σ.n).2.2.2 5 4
  | 5 => σ.swp lk m (nx4 σ.a σ.b σ.c σ.n).1 (nx4 σ.a σ.b σ.c σ.n).2.1 (nx4 σ.a σ.b σ.c σ.n).2.2.1 (nx4 σ.a σ.b σ.c σ.n).2.2.2 6 4
  | 7 => σ.swp lk m (nx4 σ.a σ.b σ.c σ.n).1 (nx4 σ.a σ.b σ.c σ.n).2.1 (nx4 σ.a σ.b σ.c σ.n).2.2.1 (nx4 σ.a σ.b σ.c σ.n).2.2.2 0 0
  | 8 => σ.swp lk m 0 σ.b 0 (mo σ.n) 0 9
  | _ => (σ.bar (σ.br.step (getW m.ms σ.br.adr)), m.load σ.br.adr)
structure SS.Ok (σ : SS) (to : Nat) (lk : Int) : Prop where
  ln : 1 ≤ σ.ln ∧ σ.ln ≤ 8
  en : σ.en = 4
  w : σ.w < 18446744073709551616
  a : σ.a ≤ 3
  b : σ.b < 256
  c : σ.c < 256
  n : σ.n < 281474976710656
  to : to < 256
  br : σ.live = true → σ.br.Ok
def SS.Y (σ : SS) (to : Nat) (lk : Int) (bp : AV) : List AV := [.int .i64 (Int.ofNat σ.ln), .int .i64 (Int.ofNat σ.en), .int .i64 σ.wt, .int .u8 (Int.ofNat to), .int .i64 lk, .int .u64 (Int.ofNat σ.w), .int .u8 (Int.ofNat σ.a), .int .u8 (Int.ofNat σ.b), .int .u8 (Int.ofNat σ.c), .int .u64 (Int.ofNat σ.n), bp]
/-- Where y's barrier lies. -/
def Bp (σ : SS) (n : Nat) (bp : AV) (o14 pC : AObj) : Prop := Free o14 ∧ Free pC ∧ ((bp = .nilPtr ∧ σ.live = false) ∨ (bp = .ptr 14 0 ∧ (σ.live = true → o14 = .cells false (σ.br.RO 0))) ∨ (bp = .ptr n 0 ∧ (σ.live = true → pC = .cells false (σ.br.RO 0))))
/-- What is so on a small heap is so where more stands, under the same names; new blocks come behind. -/
theorem extN {f : FuncId} {args : List AV} {r : AV} {bs0 : List (Nat × AObj)} {Fz : List (Nat × List AV)} {n0 nx0 : Nat} {s1 s : AS} {e : AExit} (h : Sound Tryz.prog (.call f args (canF bs0 Fz n0 nx0)) ⟨e, [r], s1⟩) (h3 : 3 ≤ nx0) (new : List Nat)
    (hF : ∀ x ∈ Fz, x.1 < nx0 ∧ x.1 ∉ bs0.map (·.1) ∧ namess (fun _ => false) x.2 = true ∧ ∃ ro, s.get x.1 = some (.cells ro x.2))
    (hb : eachX (fun b o => b < nx0 ∧ o.rw = true ∧ o.names (fun c => Nat.blt c nx0) = true ∧ getB bs0 b = some o ∧ s.get b = some o ∧ ((objAt s1 b).rw = true ∨ objAt s1 b = .dead) ∧ (objAt s1 b).names (pN nx0 new) = true) bs0)
    (hd : (bs0.map (·.1)).Nodup) (hn : new.Nodup) (hf : ∀ b ∈ new, nx0 ≤ b ∧ (objAt s1 b).rw = true ∧ (objAt s1 b).names (pN nx0 new) = true) (ha : namess (fun b => Nat.blt b nx0) args = true) (hr : r.names (fun _ => false) = true) :
    Sound Tryz.prog (.call f args s) ⟨.ret, [r], pushL (setL s ((bs0.map (·.1)).map fun b => (b, (objAt s1 b).ren (pR nx0 new (fun b => b) s.nx)))) (new.map fun b => (objAt s1 b).ren (pR nx0 new (fun b => b) s.nx))⟩ := by
  have := Sound.putFG h (fun b => b) (fun g hg => ⟨by rw [gl3] at hg; omega, rfl⟩) new s (fun x hx => ⟨(hF x hx).1, (hF x hx).2.1, (hF x hx).2.2.1, (hF x hx).2.2.2, fun b hb he => (hF x hx).2.1 (he ▸ hb)⟩) (eachX_imp hb fun x hx hh => ⟨hh.1, hh.2.1, hh.2.2.1, hh.2.2.2.1, by rw [oren_id]; exact hh.2.2.2.2.1, hh.2.2.2.2.2.1, hh.2.2.2.2.2.2⟩)
    (fun _ _ _ _ h => h) hd hn hf ha (names_sub (fun _ h => by cases h) hr)
  have hr' : r.ren (pR nx0 new (fun b => b) s.nx) = r := by rw [ren_congr (p := fun _ => false) (π' := fun b => b) (fun _ h => by cases h) hr, ren_id]
  rw [rens_id, hr'] at this
  exact this
/-! ### a step of the document's Switch is the plain one -/
def Bp0 (σ : SS) (bp : AV) (o14 : AObj) : Prop := Free o14 ∧ ((bp = .nilPtr ∧ σ.live = false) ∨ (bp = .ptr 14 0 ∧ (σ.live = true → o14 = .cells false (σ.br.RO 0))))
theorem Bp0.names {σ : SS} {bp : AV} {o14 : AObj} (h : Bp0 σ bp o14) : bp.names (fun b => Nat.blt b 17) = true := by
  rcases h.2 with ⟨rfl, _⟩ | ⟨rfl, _⟩ <;> rfl
theorem mo_lt (n : Nat) : mo n < 281474976710656 := Nat.mod_lt _ (by omega)
theorem nx4_lt {a b c n x1 x2 x3 x4 : Nat} (hb : b < 256) (hc : c < 256) (h : nx4 a b c n = (x1, x2, x3, x4)) : x1 ≤ 3 ∧ x2 < 256 ∧ x3 < 256 ∧ x4 < 281474976710656 := by
  have := mo_lt n
  unfold nx4 at h
  split at h
  · split at h
    · simp only [Prod.mk.injEq] at h
      omega
    · split at h <;> simp only [Prod.mk.injEq] at h <;> omega
  · simp only [Prod.mk.injEq] at h
    omega
theorem bg4_lt {a b c n t x1 x2 x3 x4 : Nat} (hb : b < 256) (ht : t < 256) (h : bg4 a b c n t = (x1, x2, x3, x4)) : x1 ≤ 3 ∧ x2 < 256 ∧ x3 < 256 ∧ x4 < 281474976710656 := by
  have := mo_lt n
  unfold bg4 at h
  split at h <;> simp only [Prod.mk.injEq] at h <;> omega
theorem rnextq {a b c n x1 x2 x3 x4 : Nat} (ha : a ≤ 3) (hn : n < 281474976710656) (h : nx4 a b c n = (x1, x2, x3, x4)) : (Qst.pure [] 53 [.agg (phC a b c n)] (.tuple [.agg (phC x1 x2 x3 x4), .bool (mayP a b c && decide (a ≠ 0))])).ok Tryz.prog := fun s _ => by
  have := rnext_call a b c n ha hn s
  rw [nx4_C, h] at this
  exact this
theorem rbeginq {a b c n t x1 x2 x3 x4 : Nat} (ha : a ≤ 3) (hn : n < 281474976710656) (h : bg4 a b c n t = (x1, x2, x3, x4)) : (Qst.pure [] 56 [.agg (phC a b c n), .int .u8 (Int.ofNat t)] (.tuple [.agg (phC x1 x2 x3 x4), .int .i64 (Int.ofNat (begP a b c n t).2)])).ok Tryz.prog := fun s _ => by
  have := rbegin_call a b c n t ha hn s
  rw [bg4_C, h] at this
  exact this
theorem rphq {a b c n w2 : Nat} (ha : a < 256) (hb : b < 256) (hc : c < 256) (hn : n < 18446744073709551616) (h : ofp a b c n = w2) : (Qst.pure [] 83 [.agg (phC a b c n)] (.int .u64 (Int.ofNat w2))).ok Tryz.prog := fun s _ => h ▸ rph_call a b c n ha hb hc hn s
section
variable {to : Nat} {lk : Int} {m : PM} {h : AH} {bp : AV} {o10 o14 : AObj} {y0 : List AV} (k12 : AS.get ⟨h, 17⟩ 12 = some (.cells false y0)) (k9 : AS.get ⟨h, 17⟩ 9 = some (.cells false (m.C (LV m.ms 10)))) (k10 : AS.get ⟨h, 17⟩ 10 = some o10) (hr : RO m.ms o10) (k14 : AS.get ⟨h, 17⟩ 14 = some o14) (hf : Free o14) (hy0 : namess (fun b => Nat.blt b 17) y0 = true)
include k12 k9 k10 hr k14 hf hy0
theorem mkY2 {n1 n2 : Nat} {e : AExit} {s1 : AS} {yc : List AV} {lv : AV} {m' : PM} {oL o14' pA pC : AObj} (hx : Sound Tryz.prog (.call 34 [.ptr 12 0, .ptr 9 0] (canF [(12, .cells false y0), (9, .cells false (m.C (LV m.ms 10))), (10, o10), (14, o14)] [] 4 17)) ⟨e, [undefA], s1⟩) (h1 : 17 ≤ n1) (h2 : 17 ≤ n2) (hne : n1 ≠ n2)
    (j12 : s1.get 12 = some (.cells false yc)) (j9 : s1.get 9 = some (.cells false (m'.C lv))) (j10 : s1.get 10 = some oL) (j14 : s1.get 14 = some o14') (jA : s1.get n1 = some pA) (jC : s1.get n2 = some pC) (hy : namess (pN 17 [n1, n2]) yc = true) (hlv : lv.names (pN 17 [n1, n2]) = true)
    (hL : (oL.rw = true ∨ oL = .dead) ∧ ∀ p, oL.names p = true) (h14 : Free o14') (hA : Free pA) (hC : Free pC) :
    Sound Tryz.prog (.call 34 [.ptr 12 0, .ptr 9 0] ⟨h, 17⟩) ⟨.ret, [undefA], ((((((⟨h, 17⟩ : AS).set 12 (.cells false (rens (pR 17 [n1, n2] (fun b => b) 17) yc))).set 9 (.cells false (m'.C (lv.ren (pR 17 [n1, n2] (fun b => b) 17))))).set 10 oL).set 14 o14').push pA).push pC⟩ := by
  have e12 : objAt s1 12 = .cells false yc := by simp [objAt, j12]
  have e9 : objAt s1 9 = .cells false (m'.C lv) := by simp [objAt, j9]
  have e10 : objAt s1 10 = oL := by simp [objAt, j10]
  have e14 : objAt s1 14 = o14' := by simp [objAt, j14]
  have eA : objAt s1 n1 = pA := by simp [objAt, jA]
  have eC : objAt s1 n2 = pC := by simp [objAt, jC]
  have := extN hx (by decide) [n1, n2] (s := ⟨h, 17⟩) (fun x hx => by cases hx)
    ⟨⟨show 12 < 17 by decide, rfl, hy0, rfl, k12, by rw [e12]; exact .inl rfl, by rw [e12]; exact hy⟩, ⟨show 9 < 17 by decide, rfl, C_names _ _ _ (LV_names _ _ _ rfl), rfl, k9, by rw [e9]; exact .inl rfl, by rw [e9]; exact C_names _ _ _ hlv⟩,
      ⟨show 10 < 17 by decide, hr.free.1, hr.free.nm _, rfl, k10, by rw [e10]; exact hL.1, by rw [e10]; exact hL.2 _⟩, ⟨show 14 < 17 by decide, hf.1, hf.nm _, rfl, k14, by rw [e14]; exact .inl h14.1, by rw [e14]; exact h14.nm _⟩, trivial⟩
    (show [12, 9, 10, 14].Nodup by decide) (by simp [hne]) (fun b hb => by
      rcases List.mem_cons.1 hb with rfl | hb
      · rw [eA]; exact ⟨h1, hA.1, hA.nm _⟩
      · rcases List.mem_cons.1 hb with rfl | hb
        · rw [eC]; exact ⟨h2, hC.1, hC.nm _⟩
        · cases hb) rfl rfl
  simp only [List.map_cons, List.map_nil, setL, e12, e9, e10, e14, eA, eC, no_ren hL.2, h14.ren, hA.ren, hC.ren] at this
  exact this
theorem mkY0 {e : AExit} {s1 : AS} {yc : List AV} {m' : PM} {o14' : AObj} (hx : Sound Tryz.prog (.call 34 [.ptr 12 0, .ptr 9 0] (canF [(12, .cells false y0), (9, .cells false (m.C (LV m.ms 10))), (10, o10), (14, o14)] [] 4 17)) ⟨e, [undefA], s1⟩)
    (j12 : s1.get 12 = some (.cells false yc)) (j9 : s1.get 9 = some (.cells false (m'.C (LV m.ms 10)))) (j10 : s1.get 10 = some o10) (j14 : s1.get 14 = some o14') (hy : namess (fun b => Nat.blt b 17) yc = true) (h14 : Free o14') :
    Sound Tryz.prog (.call 34 [.ptr 12 0, .ptr 9 0] ⟨h, 17⟩) ⟨.ret, [undefA], ((((((⟨h, 17⟩ : AS).set 12 (.cells false yc)).set 9 (.cells false (m'.C (LV m.ms 10)))).set 10 o10).set 14 o14').push (.cells false [])).push (.cells false [])⟩ := by
  have e12 : objAt s1 12 = .cells false yc := by simp [objAt, j12]
  have e9 : objAt s1 9 = .cells false (m'.C (LV m.ms 10)) := by simp [objAt, j9]
  have e10 : objAt s1 10 = o10 := by simp [objAt, j10]
  have e14 : objAt s1 14 = o14' := by simp [objAt, j14]
  have := ext0 hx (by decide) (s := ⟨h, 17⟩) (fun x hx => by cases hx)
    ⟨⟨show 12 < 17 by decide, rfl, hy0, rfl, k12, by rw [e12]; exact .inl rfl, by rw [e12]; exact hy⟩, ⟨show 9 < 17 by decide, rfl, C_names _ _ _ (LV_names _ _ _ rfl), rfl, k9, by rw [e9]; exact .inl rfl, by rw [e9]; exact C_names _ _ _ (LV_names _ _ _ rfl)⟩,
      ⟨show 10 < 17 by decide, hr.free.1, hr.free.nm _, rfl, k10, by rw [e10]; exact .inl hr.free.1, by rw [e10]; exact hr.free.nm _⟩, ⟨show 14 < 17 by decide, hf.1, hf.nm _, rfl, k14, by rw [e14]; exact .inl h14.1, by rw [e14]; exact h14.nm _⟩, trivial⟩
    (show [12, 9, 10, 14].Nodup by decide) rfl rfl
  simp only [List.map_cons, List.map_nil, setL, e12, e9, e10, e14] at this
  exact Sound.ghost _ (Sound.ghost _ this)
end
def YC (_ : SS) (to : Nat) (lk : Int) (_ : PM) (h : AH) (r : SS × PM) : Prop :=
  ∃ lv oL pA bp' o14' pC, Row2 r.2.ms 10 17 lv oL pA ∧ Bp r.1 18 bp' o14' pC ∧ Sound Tryz.prog (.call 34 [.ptr 12 0, .ptr 9 0] ⟨h, 17⟩) ⟨.ret, [undefA], ((((((⟨h, 17⟩ : AS).set 12 (.cells false (r.1.Y to lk bp'))).set 9 (.cells false (r.2.C lv))).set 10 oL).set 14 o14').push pA).push pC⟩
section
variable {w a b c n to : Nat} {wt lk : Int} {br : Br} {m : PM} {h : AH} {bp : AV} {o10 o14 : AObj}

theorem q_mask (n : Nat) (hn : n < 281474976710656) : some (AV.int .u64 (bits .and .u64 (Int.ofNat (n + 1)) 281474976710655)) = some (AV.int .u64 (Int.ofNat (mo n))) := maskN (n + 1) (by omega)
theorem Y_2 (hO : SS.Ok ⟨2, 4, w, wt, a, b, c, n, br⟩ to lk) (hl : m.ms.length < 16776000) (k12 : AS.get ⟨h, 17⟩ 12 = some (.cells false (SS.Y ⟨2, 4, w, wt, a, b, c, n, br⟩ to lk bp))) (k9 : AS.get ⟨h, 17⟩ 9 = some (.cells false (m.C (LV m.ms 10)))) (k10 : AS.get ⟨h, 17⟩ 10 = some o10) (hr : RO m.ms o10) (k14 : AS.get ⟨h, 17⟩ 14 = some o14) (hbp : Bp0 ⟨2, 4, w, wt, a, b, c, n, br⟩ bp o14) (_ : ∀ a, getW m.ms a < 18446744073709551616) :
    YC ⟨2, 4, w, wt, a, b, c, n, br⟩ to lk m h (SS.step ⟨2, 4, w, wt, a, b, c, n, br⟩ to lk m) := by
  have ha : a ≤ 3 := hO.a
  have hb : b < 256 := hO.b
  have hc : c < 256 := hO.c
  have hn : n < 281474976710656 := hO.n
  have hto : to < 256 := hO.to
  have hy0 : namess (fun b => Nat.blt b 17) (SS.Y ⟨2, 4, w, wt, a, b, c, n, br⟩ to lk bp) = true := by
    show (bp.names (fun b => Nat.blt b 17) && true) = true
    rw [hbp.names]
    rfl
  obtain ⟨x1, x2, x3, x4, hx4⟩ : ∃ x1 x2 x3 x4, nx4 a b c n = (x1, x2, x3, x4) := ⟨_, _, _, _, rfl⟩
  obtain ⟨g1, g2, g3, g4⟩ := nx4_lt hb hc hx4
  obtain ⟨q1, q2, q3, q4, hq4⟩ : ∃ q1 q2 q3 q4, bg4 a b c n to = (q1, q2, q3, q4) := ⟨_, _, _, _, rfl⟩
  obtain ⟨f1, f2, f3, f4⟩ := bg4_lt hb hto hq4
  obtain ⟨w2, hw2⟩ : ∃ w2, ofp q1 q2 q3 q4 = w2 := ⟨_, rfl⟩
  have es : SS.step ⟨2, 4, w, wt, a, b, c, n, br⟩ to lk m = SS.swp ⟨2, 4, w, wt, a, b, c, n, br⟩ lk m q1 q2 q3 q4 3 4 := by
    simp only [SS.step, hq4]
  rw [es]
  unfold SS.swp
  rw [hw2]
  obtain ⟨lv, oL2, o2, h2, hp⟩ := rcas_at (m := m) (b := 9) (bL := 10) (s := { h := { bs := [(19, AObj.cells false [AV.int IntKind.u8 (Int.ofNat q1), AV.int IntKind.u8 (Int.ofNat q2), AV.int IntKind.u8 (Int.ofNat q3), AV.int IntKind.u64 (Int.ofNat q4)]), (18, AObj.cells false [AV.int IntKind.u8 (Int.ofNat q1), AV.int IntKind.u8 (Int.ofNat q2), AV.int IntKind.u8 (Int.ofNat q3), AV.int IntKind.u64 (Int.ofNat q4)]), (17, AObj.cells false [AV.int IntKind.u8 (Int.ofNat x1), AV.int IntKind.u8 (Int.ofNat x2), AV.int IntKind.u8 (Int.ofNat x3), AV.int IntKind.u64 (Int.ofNat x4)]), (12, AObj.cells false [AV.int IntKind.i64 (Int.ofNat 2), AV.int IntKind.i64 (Int.ofNat 4), AV.int IntKind.i64 wt, AV.int IntKind.u8 (Int.ofNat to), AV.int IntKind.i64 lk, AV.int IntKind.u64 (Int.ofNat w), AV.int IntKind.u8 (Int.ofNat a), AV.int IntKind.u8 (Int.ofNat b), AV.int IntKind.u8 (Int.ofNat c), AV.int IntKind.u64 (Int.ofNat n), bp]), (9, AObj.cells false (m.C (LV m.ms 10))), (10, o10), (14, o14)], len := 7, esc := none, wr := [] }, nx := 20 }) rfl rfl hr (by decide) hl aP (by decide) w w2
  by_cases hd : m.casd aP w = true
  · rw [hd] at hp
    have hx := runX_sound mixed none_sound (y2_y to a b c n w 0 w2 (begP a b c n to).2 0 0 0 0 x1 x2 x3 x4 q1 q2 q3 q4 lk wt bp (.cells false (m.C (LV m.ms 10))) (.cells false ((m.cas aP w w2).C lv)) o10 oL2 o14 o2 (mayP a b c && decide (a ≠ 0)) 0 0 0 .nilPtr .nilPtr .nilPtr .nilPtr) ⟨rnextq ha hn hx4, rbeginq ha hn hq4, rphq (by omega) f2 f3 (by omega) hw2, escAny hp _, trivial⟩
    simp only [hd, if_true]
    have h2n := h2.names (pN 17 [20, 21]) rfl rfl
    have fin := mkY2 (n1 := 20) (n2 := 21) (m' := m.cas aP w w2) (yc := SS.Y ⟨3, 4, w2, wt, q1, q2, q3, q4, newB q4 lk⟩ to lk (.ptr 21 0)) (pC := .cells false ((newB q4 lk).RO 0)) k12 k9 k10 hr k14 hbp.1 hy0 hx (by decide) (by decide) (by decide) rfl rfl rfl rfl rfl rfl rfl h2n h2.o1 hbp.1 h2.o2 ⟨rfl, rfl⟩
    rw [show rens (pR 17 [20, 21] (fun b => b) 17) (SS.Y ⟨3, 4, w2, wt, q1, q2, q3, q4, newB q4 lk⟩ to lk (.ptr 21 0)) = SS.Y ⟨3, 4, w2, wt, q1, q2, q3, q4, newB q4 lk⟩ to lk (.ptr 18 0) from rfl] at fin
    exact ⟨_, oL2, o2, .ptr 18 0, o14, .cells false ((newB q4 lk).RO 0), h2.ren (pR 17 [20, 21] (fun b => b) 17), ⟨hbp.1, ⟨rfl, rfl⟩, .inr (.inr ⟨rfl, fun _ => rfl⟩)⟩, fin⟩
  · have hd0 : m.casd aP w = false := by simpa using hd
    rw [hd0] at hp
    have hx := runX_sound mixed none_sound (y2_n to a b c n w 0 w2 (begP a b c n to).2 0 0 0 0 x1 x2 x3 x4 q1 q2 q3 q4 lk wt bp (.cells false (m.C (LV m.ms 10))) (.cells false ((m.cas aP w w2).C lv)) o10 oL2 o14 o2 (mayP a b c && decide (a ≠ 0)) 0 0 0 .nilPtr .nilPtr .nilPtr .nilPtr) ⟨rnextq ha hn hx4, rbeginq ha hn hq4, rphq (by omega) f2 f3 (by omega) hw2, escAny hp _, trivial⟩
    simp only [hd0, Bool.false_eq_true, if_false]
    have h2n := h2.names (pN 17 [20, 17]) rfl rfl
    have hb2 : bp.ren (pR 17 [20, 17] (fun b => b) 17) = bp := by rcases hbp.2 with ⟨rfl, _⟩ | ⟨rfl, _⟩ <;> rfl
    have hbn : bp.names (pN 17 [20, 17]) = true := by rcases hbp.2 with ⟨rfl, _⟩ | ⟨rfl, _⟩ <;> rfl
    have fin := mkY2 (n1 := 20) (n2 := 17) (m' := m.cas aP w w2) (yc := SS.Y ⟨0, 7, w, wt, a, b, c, n, br⟩ to lk bp) k12 k9 k10 hr k14 hbp.1 hy0 hx (by decide) (by decide) (by decide) rfl rfl rfl rfl rfl rfl (by show (bp.names _ && true) = true; rw [hbn]; rfl) h2n h2.o1 hbp.1 h2.o2 ⟨rfl, rfl⟩
    rw [show rens (pR 17 [20, 17] (fun b => b) 17) (SS.Y ⟨0, 7, w, wt, a, b, c, n, br⟩ to lk bp) = SS.Y ⟨0, 7, w, wt, a, b, c, n, br⟩ to lk (bp.ren (pR 17 [20, 17] (fun b => b) 17)) from rfl, hb2] at fin
    refine ⟨_, oL2, o2, bp, o14, _, h2.ren (pR 17 [20, 17] (fun b => b) 17), ⟨hbp.1, ⟨rfl, rfl⟩, ?_⟩, fin⟩
    rcases hbp.2 with ⟨rfl, _⟩ | ⟨rfl, _⟩
    · exact .inl ⟨rfl, rfl⟩
    · exact .inr (.inl ⟨rfl, fun h => by cases h⟩)
theorem Y_4 (hO : SS.Ok ⟨4, 4, w, wt, a, b, c, n, br⟩ to lk) (hl : m.ms.length < 16776000) (k12 : AS.get ⟨h, 17⟩ 12 = some (.cells false (SS.Y ⟨4, 4, w, wt, a, b, c, n, br⟩ to lk bp))) (k9 : AS.get ⟨h, 17⟩ 9 = some (.cells false (m.C (LV m.ms 10)))) (k10 : AS.get ⟨h, 17⟩ 10 = some o10) (hr : RO m.ms o10) (k14 : AS.get ⟨h, 17⟩ 14 = some o14) (hbp : Bp0 ⟨4, 4, w, wt, a, b, c, n, br⟩ bp o14) (_ : ∀ a, getW m.ms a < 18446744073709551616) :
    YC ⟨4, 4, w, wt, a, b, c, n, br⟩ to lk m h (SS.step ⟨4, 4, w, wt, a, b, c, n, br⟩ to lk m) := by
  have ha : a ≤ 3 := hO.a
  have hb : b < 256 := hO.b
  have hc : c < 256 := hO.c
  have hn : n < 281474976710656 := hO.n
  have hto : to < 256 := hO.to
  have hy0 : namess (fun b => Nat.blt b 17) (SS.Y ⟨4, 4, w, wt, a, b, c, n, br⟩ to lk bp) = true := by
    show (bp.names (fun b => Nat.blt b 17) && true) = true
    rw [hbp.names]
    rfl
  obtain ⟨x1, x2, x3, x4, hx4⟩ : ∃ x1 x2 x3 x4, nx4 a b c n = (x1, x2, x3, x4) := ⟨_, _, _, _, rfl⟩
  obtain ⟨g1, g2, g3, g4⟩ := nx4_lt hb hc hx4
  obtain ⟨w2, hw2⟩ : ∃ w2, ofp x1 x2 x3 x4 = w2 := ⟨_, rfl⟩
  have es : SS.step ⟨4, 4, w, wt, a, b, c, n, br⟩ to lk m = SS.swp ⟨4, 4, w, wt, a, b, c, n, br⟩ lk m x1 x2 x3 x4 5 4 := by
    simp only [SS.step, hx4]
  rw [es]
  unfold SS.swp
  rw [hw2]
  obtain ⟨lv, oL2, o2, h2, hp⟩ := rcas_at (m := m) (b := 9) (bL := 10) (s := { h := { bs := [(18, AObj.cells false [AV.int IntKind.u8 (Int.ofNat x1), AV.int IntKind.u8 (Int.ofNat x2), AV.int IntKind.u8 (Int.ofNat x3), AV.int IntKind.u64 (Int.ofNat x4)]), (17, AObj.cells false [AV.int IntKind.u8 (Int.ofNat x1), AV.int IntKind.u8 (Int.ofNat x2), AV.int IntKind.u8 (Int.ofNat x3), AV.int IntKind.u64 (Int.ofNat x4)]), (12, AObj.cells false [AV.int IntKind.i64 (Int.ofNat 4), AV.int IntKind.i64 (Int.ofNat 4), AV.int IntKind.i64 wt, AV.int IntKind.u8 (Int.ofNat to), AV.int IntKind.i64 lk, AV.int IntKind.u64 (Int.ofNat w), AV.int IntKind.u8 (Int.ofNat a), AV.int IntKind.u8 (Int.ofNat b), AV.int IntKind.u8 (Int.ofNat c), AV.int IntKind.u64 (Int.ofNat n), bp]), (9, AObj.cells false (m.C (LV m.ms 10))), (10, o10), (14, o14)], len := 6, esc := none, wr := [] }, nx := 19 }) rfl rfl hr (by decide) hl aP (by decide) w w2
  by_cases hd : m.casd aP w = true
  · rw [hd] at hp
    have hx := runX_sound mixed none_sound (y4_y to a b c n w 0 w2 0 0 0 0 0 x1 x2 x3 x4 0 0 0 0 lk wt bp (.cells false (m.C (LV m.ms 10))) (.cells false ((m.cas aP w w2).C lv)) o10 oL2 o14 o2 (mayP a b c && decide (a ≠ 0)) 0 0 0 .nilPtr .nilPtr .nilPtr .nilPtr) ⟨rnextq ha hn hx4, rphq (by omega) g2 g3 (by omega) hw2, escAny hp _, trivial⟩
    simp only [hd, if_true]
    have h2n := h2.names (pN 17 [19, 20]) rfl rfl
    have fin := mkY2 (n1 := 19) (n2 := 20) (m' := m.cas aP w w2) (yc := SS.Y ⟨5, 4, w2, wt, x1, x2, x3, x4, newB x4 lk⟩ to lk (.ptr 20 0)) (pC := .cells false ((newB x4 lk).RO 0)) k12 k9 k10 hr k14 hbp.1 hy0 hx (by decide) (by decide) (by decide) rfl rfl rfl rfl rfl rfl rfl h2n h2.o1 hbp.1 h2.o2 ⟨rfl, rfl⟩
    rw [show rens (pR 17 [19, 20] (fun b => b) 17) (SS.Y ⟨5, 4, w2, wt, x1, x2, x3, x4, newB x4 lk⟩ to lk (.ptr 20 0)) = SS.Y ⟨5, 4, w2, wt, x1, x2, x3, x4, newB x4 lk⟩ to lk (.ptr 18 0) from rfl] at fin
    exact ⟨_, oL2, o2, .ptr 18 0, o14, .cells false ((newB x4 lk).RO 0), h2.ren (pR 17 [19, 20] (fun b => b) 17), ⟨hbp.1, ⟨rfl, rfl⟩, .inr (.inr ⟨rfl, fun _ => rfl⟩)⟩, fin⟩
  · have hd0 : m.casd aP w = false := by simpa using hd
    rw [hd0] at hp
    have hx := runX_sound mixed none_sound (y4_n to a b c n w 0 w2 0 0 0 0 0 x1 x2 x3 x4 0 0 0 0 lk wt bp (.cells false (m.C (LV m.ms 10))) (.cells false ((m.cas aP w w2).C lv)) o10 oL2 o14 o2 (mayP a b c && decide (a ≠ 0)) 0 0 0 .nilPtr .nilPtr .nilPtr .nilPtr) ⟨rnextq ha hn hx4, rphq (by omega) g2 g3 (by omega) hw2, escAny hp _, trivial⟩
    simp only [hd0, Bool.false_eq_true, if_false]
    have h2n := h2.names (pN 17 [19, 17]) rfl rfl
    have hb2 : bp.ren (pR 17 [19, 17] (fun b => b) 17) = bp := by rcases hbp.2 with ⟨rfl, _⟩ | ⟨rfl, _⟩ <;> rfl
    have hbn : bp.names (pN 17 [19, 17]) = true := by rcases hbp.2 with ⟨rfl, _⟩ | ⟨rfl, _⟩ <;> rfl
    have fin := mkY2 (n1 := 19) (n2 := 17) (m' := m.cas aP w w2) (yc := SS.Y ⟨0, 7, w, wt, a, b, c, n, br⟩ to lk bp) k12 k9 k10 hr k14 hbp.1 hy0 hx (by decide) (by decide) (by decide) rfl rfl rfl rfl rfl rfl (by show (bp.names _ && true) = true; rw [hbn]; rfl) h2n h2.o1 hbp.1 h2.o2 ⟨rfl, rfl⟩
    rw [show rens (pR 17 [19, 17] (fun b => b) 17) (SS.Y ⟨0, 7, w, wt, a, b, c, n, br⟩ to lk bp) = SS.Y ⟨0, 7, w, wt, a, b, c, n, br⟩ to lk (bp.ren (pR 17 [19, 17] (fun b => b) 17)) from rfl, hb2] at fin
    refine ⟨_, oL2, o2, bp, o14, _, h2.ren (pR 17 [19, 17] (fun b => b) 17), ⟨hbp.1, ⟨rfl, rfl⟩, ?_⟩, fin⟩
    rcases hbp.2 with ⟨rfl, _⟩ | ⟨rfl, _⟩
    · exact .inl ⟨rfl, rfl⟩
    · exact .inr (.inl ⟨rfl, fun h => by cases h⟩)
theorem Y_5 (hO : SS.Ok ⟨5, 4, w, wt, a, b, c, n, br⟩ to lk) (hl : m.ms.length < 16776000) (k12 : AS.get ⟨h, 17⟩ 12 = some (.cells false (SS.Y ⟨5, 4, w, wt, a, b, c, n, br⟩ to lk bp))) (k9 : AS.get ⟨h, 17⟩ 9 = some (.cells false (m.C (LV m.ms 10)))) (k10 : AS.get ⟨h, 17⟩ 10 = some o10) (hr : RO m.ms o10) (k14 : AS.get ⟨h, 17⟩ 14 = some o14) (hbp : Bp0 ⟨5, 4, w, wt, a, b, c, n, br⟩ bp o14) (_ : ∀ a, getW m.ms a < 18446744073709551616) :
    YC ⟨5, 4, w, wt, a, b, c, n, br⟩ to lk m h (SS.step ⟨5, 4, w, wt, a, b, c, n, br⟩ to lk m) := by
  have ha : a ≤ 3 := hO.a
  have hb : b < 256 := hO.b
  have hc : c < 256 := hO.c
  have hn : n < 281474976710656 := hO.n
  have hto : to < 256 := hO.to
  have hy0 : namess (fun b => Nat.blt b 17) (SS.Y ⟨5, 4, w, wt, a, b, c, n, br⟩ to lk bp) = true := by
    show (bp.names (fun b => Nat.blt b 17) && true) = true
    rw [hbp.names]
    rfl
  obtain ⟨x1, x2, x3, x4, hx4⟩ : ∃ x1 x2 x3 x4, nx4 a b c n = (x1, x2, x3, x4) := ⟨_, _, _, _, rfl⟩
  obtain ⟨g1, g2, g3, g4⟩ := nx4_lt hb hc hx4
  obtain ⟨w2, hw2⟩ : ∃ w2, ofp x1 x2 x3 x4 = w2 := ⟨_, rfl⟩
  have es : SS.step ⟨5, 4, w, wt, a, b, c, n, br⟩ to lk m = SS.swp ⟨5, 4, w, wt, a, b, c, n, br⟩ lk m x1 x2 x3 x4 6 4 := by
    simp only [SS.step, hx4]
  rw [es]
  unfold SS.swp
  rw [hw2]
  obtain ⟨lv, oL2, o2, h2, hp⟩ := rcas_at (m := m) (b := 9) (bL := 10) (s := { h := { bs := [(18, AObj.cells false [AV.int IntKind.u8 (Int.ofNat x1), AV.int IntKind.u8 (Int.ofNat x2), AV.int IntKind.u8 (Int.ofNat x3), AV.int IntKind.u64 (Int.ofNat x4)]), (17, AObj.cells false [AV.int IntKind.u8 (Int.ofNat x1), AV.int IntKind.u8 (Int.ofNat x2), AV.int IntKind.u8 (Int.ofNat x3), AV.int IntKind.u64 (Int.ofNat x4)]), (12, AObj.cells false [AV.int IntKind.i64 (Int.ofNat 5), AV.int IntKind.i64 (Int.ofNat 4), AV.int IntKind.i64 wt, AV.int IntKind.u8 (Int.ofNat to), AV.int IntKind.i64 lk, AV.int IntKind.u64 (Int.ofNat w), AV.int IntKind.u8 (Int.ofNat a), AV.int IntKind.u8 (Int.ofNat b), AV.int IntKind.u8 (Int.ofNat c), AV.int IntKind.u64 (Int.ofNat n), bp]), (9, AObj.cells false (m.C (LV m.ms 10))), (10, o10), (14, o14)], len := 6, esc := none, wr := [] }, nx := 19 }) rfl rfl hr (by decide) hl aP (by decide) w w2
  by_cases hd : m.casd aP w = true
  · rw [hd] at hp
    have hx := runX_sound mixed none_sound (y5_y to a b c n w 0 w2 0 0 0 0 0 x1 x2 x3 x4 0 0 0 0 lk wt bp (.cells false (m.C (LV m.ms 10))) (.cells false ((m.cas aP w w2).C lv)) o10 oL2 o14 o2 (mayP a b c && decide (a ≠ 0)) 0 0 0 .nilPtr .nilPtr .nilPtr .nilPtr) ⟨rnextq ha hn hx4, rphq (by omega) g2 g3 (by omega) hw2, escAny hp _, trivial⟩
    simp only [hd, if_true]
    have h2n := h2.names (pN 17 [19, 20]) rfl rfl
    have fin := mkY2 (n1 := 19) (n2 := 20) (m' := m.cas aP w w2) (yc := SS.Y ⟨6, 4, w2, wt, x1, x2, x3, x4, newB x4 lk⟩ to lk (.ptr 20 0)) (pC := .cells false ((newB x4 lk).RO 0)) k12 k9 k10 hr k14 hbp.1 hy0 hx (by decide) (by decide) (by decide) rfl rfl rfl rfl rfl rfl rfl h2n h2.o1 hbp.1 h2.o2 ⟨rfl, rfl⟩
    rw [show rens (pR 17 [19, 20] (fun b => b) 17) (SS.Y ⟨6, 4, w2, wt, x1, x2, x3, x4, newB x4 lk⟩ to lk (.ptr 20 0)) = SS.Y ⟨6, 4, w2, wt, x1, x2, x3, x4, newB x4 lk⟩ to lk (.ptr 18 0) from rfl] at fin
    exact ⟨_, oL2, o2, .ptr 18 0, o14, .cells false ((newB x4 lk).RO 0), h2.ren (pR 17 [19, 20] (fun b => b) 17), ⟨hbp.1, ⟨rfl, rfl⟩, .inr (.inr ⟨rfl, fun _ => rfl⟩)⟩, fin⟩
  · have hd0 : m.casd aP w = false := by simpa using hd
    rw [hd0] at hp
    have hx := runX_sound mixed none_sound (y5_n to a b c n w 0 w2 0 0 0 0 0 x1 x2 x3 x4 0 0 0 0 lk wt bp (.cells false (m.C (LV m.ms 10))) (.cells false ((m.cas aP w w2).C lv)) o10 oL2 o14 o2 (mayP a b c && decide (a ≠ 0)) 0 0 0 .nilPtr .nilPtr .nilPtr .nilPtr) ⟨rnextq ha hn hx4, rphq (by omega) g2 g3 (by omega) hw2, escAny hp _, trivial⟩
    simp only [hd0, Bool.false_eq_true, if_false]
    have h2n := h2.names (pN 17 [19, 17]) rfl rfl
    have hb2 : bp.ren (pR 17 [19, 17] (fun b => b) 17) = bp := by rcases hbp.2 with ⟨rfl, _⟩ | ⟨rfl, _⟩ <;> rfl
    have hbn : bp.names (pN 17 [19, 17]) = true := by rcases hbp.2 with ⟨rfl, _⟩ | ⟨rfl, _⟩ <;> rfl
    have fin := mkY2 (n1 := 19) (n2 := 17) (m' := m.cas aP w w2) (yc := SS.Y ⟨0, 7, w, wt, a, b, c, n, br⟩ to lk bp) k12 k9 k10 hr k14 hbp.1 hy0 hx (by decide) (by decide) (by decide) rfl rfl rfl rfl rfl rfl (by show (bp.names _ && true) = true; rw [hbn]; rfl) h2n h2.o1 hbp.1 h2.o2 ⟨rfl, rfl⟩
    rw [show rens (pR 17 [19, 17] (fun b => b) 17) (SS.Y ⟨0, 7, w, wt, a, b, c, n, br⟩ to lk bp) = SS.Y ⟨0, 7, w, wt, a, b, c, n, br⟩ to lk (bp.ren (pR 17 [19, 17] (fun b => b) 17)) from rfl, hb2] at fin
    refine ⟨_, oL2, o2, bp, o14, _, h2.ren (pR 17 [19, 17] (fun b => b) 17), ⟨hbp.1, ⟨rfl, rfl⟩, ?_⟩, fin⟩
    rcases hbp.2 with ⟨rfl, _⟩ | ⟨rfl, _⟩
    · exact .inl ⟨rfl, rfl⟩
    · exact .inr (.inl ⟨rfl, fun h => by cases h⟩)
theorem Y_7 (hO : SS.Ok ⟨7, 4, w, wt, a, b, c, n, br⟩ to lk) (hl : m.ms.length < 16776000) (k12 : AS.get ⟨h, 17⟩ 12 = some (.cells false (SS.Y ⟨7, 4, w, wt, a, b, c, n, br⟩ to lk bp))) (k9 : AS.get ⟨h, 17⟩ 9 = some (.cells false (m.C (LV m.ms 10)))) (k10 : AS.get ⟨h, 17⟩ 10 = some o10) (hr : RO m.ms o10) (k14 : AS.get ⟨h, 17⟩ 14 = some o14) (hbp : Bp0 ⟨7, 4, w, wt, a, b, c, n, br⟩ bp o14) (_ : ∀ a, getW m.ms a < 18446744073709551616) :
    YC ⟨7, 4, w, wt, a, b, c, n, br⟩ to lk m h (SS.step ⟨7, 4, w, wt, a, b, c, n, br⟩ to lk m) := by
  have ha : a ≤ 3 := hO.a
  have hb : b < 256 := hO.b
  have hc : c < 256 := hO.c
  have hn : n < 281474976710656 := hO.n
  have hto : to < 256 := hO.to
  have hy0 : namess (fun b => Nat.blt b 17) (SS.Y ⟨7, 4, w, wt, a, b, c, n, br⟩ to lk bp) = true := by
    show (bp.names (fun b => Nat.blt b 17) && true) = true
    rw [hbp.names]
    rfl
  obtain ⟨x1, x2, x3, x4, hx4⟩ : ∃ x1 x2 x3 x4, nx4 a b c n = (x1, x2, x3, x4) := ⟨_, _, _, _, rfl⟩
  obtain ⟨g1, g2, g3, g4⟩ := nx4_lt hb hc hx4
  obtain ⟨w2, hw2⟩ : ∃ w2, ofp x1 x2 x3 x4 = w2 := ⟨_, rfl⟩
  have es : SS.step ⟨7, 4, w, wt, a, b, c, n, br⟩ to lk m = SS.swp ⟨7, 4, w, wt, a, b, c, n, br⟩ lk m x1 x2 x3 x4 0 0 := by
    simp only [SS.step, hx4]
  rw [es]
  unfold SS.swp
  rw [hw2]
  obtain ⟨lv, oL2, o2, h2, hp⟩ := rcas_at (m := m) (b := 9) (bL := 10) (s := { h := { bs := [(18, AObj.cells false [AV.int IntKind.u8 (Int.ofNat x1), AV.int IntKind.u8 (Int.ofNat x2), AV.int IntKind.u8 (Int.ofNat x3), AV.int IntKind.u64 (Int.ofNat x4)]), (17, AObj.cells false [AV.int IntKind.u8 (Int.ofNat x1), AV.int IntKind.u8 (Int.ofNat x2), AV.int IntKind.u8 (Int.ofNat x3), AV.int IntKind.u64 (Int.ofNat x4)]), (12, AObj.cells false [AV.int IntKind.i64 (Int.ofNat 7), AV.int IntKind.i64 (Int.ofNat 4), AV.int IntKind.i64 wt, AV.int IntKind.u8 (Int.ofNat to), AV.int IntKind.i64 lk, AV.int IntKind.u64 (Int.ofNat w), AV.int IntKind.u8 (Int.ofNat a), AV.int IntKind.u8 (Int.ofNat b), AV.int IntKind.u8 (Int.ofNat c), AV.int IntKind.u64 (Int.ofNat n), bp]), (9, AObj.cells false (m.C (LV m.ms 10))), (10, o10), (14, o14)], len := 6, esc := none, wr := [] }, nx := 19 }) rfl rfl hr (by decide) hl aP (by decide) w w2
  by_cases hd : m.casd aP w = true
  · rw [hd] at hp
    have hx := runX_sound mixed none_sound (y7_y to a b c n w 0 w2 0 0 0 0 0 x1 x2 x3 x4 0 0 0 0 lk wt bp (.cells false (m.C (LV m.ms 10))) (.cells false ((m.cas aP w w2).C lv)) o10 oL2 o14 o2 (mayP a b c && decide (a ≠ 0)) 0 0 0 .nilPtr .nilPtr .nilPtr .nilPtr) ⟨rnextq ha hn hx4, rphq (by omega) g2 g3 (by omega) hw2, escAny hp _, trivial⟩
    simp only [hd, if_true]
    have h2n := h2.names (pN 17 [19, 20]) rfl rfl
    have fin := mkY2 (n1 := 19) (n2 := 20) (m' := m.cas aP w w2) (yc := SS.Y ⟨0, 0, w2, wt, x1, x2, x3, x4, newB x4 lk⟩ to lk (.ptr 20 0)) (pC := .cells false ((newB x4 lk).RO 0)) k12 k9 k10 hr k14 hbp.1 hy0 hx (by decide) (by decide) (by decide) rfl rfl rfl rfl rfl rfl rfl h2n h2.o1 hbp.1 h2.o2 ⟨rfl, rfl⟩
    rw [show rens (pR 17 [19, 20] (fun b => b) 17) (SS.Y ⟨0, 0, w2, wt, x1, x2, x3, x4, newB x4 lk⟩ to lk (.ptr 20 0)) = SS.Y ⟨0, 0, w2, wt, x1, x2, x3, x4, newB x4 lk⟩ to lk (.ptr 18 0) from rfl] at fin
    exact ⟨_, oL2, o2, .ptr 18 0, o14, .cells false ((newB x4 lk).RO 0), h2.ren (pR 17 [19, 20] (fun b => b) 17), ⟨hbp.1, ⟨rfl, rfl⟩, .inr (.inr ⟨rfl, fun _ => rfl⟩)⟩, fin⟩
  · have hd0 : m.casd aP w = false := by simpa using hd
    rw [hd0] at hp
    have hx := runX_sound mixed none_sound (y7_n to a b c n w 0 w2 0 0 0 0 0 x1 x2 x3 x4 0 0 0 0 lk wt bp (.cells false (m.C (LV m.ms 10))) (.cells false ((m.cas aP w w2).C lv)) o10 oL2 o14 o2 (mayP a b c && decide (a ≠ 0)) 0 0 0 .nilPtr .nilPtr .nilPtr .nilPtr) ⟨rnextq ha hn hx4, rphq (by omega) g2 g3 (by omega) hw2, escAny hp _, trivial⟩
    simp only [hd0, Bool.false_eq_true, if_false]
    have h2n := h2.names (pN 17 [19, 17]) rfl rfl
    have hb2 : bp.ren (pR 17 [19, 17] (fun b => b) 17) = bp := by rcases hbp.2 with ⟨rfl, _⟩ | ⟨rfl, _⟩ <;> rfl
    have hbn : bp.names (pN 17 [19, 17]) = true := by rcases hbp.2 with ⟨rfl, _⟩ | ⟨rfl, _⟩ <;> rfl
    have fin := mkY2 (n1 := 19) (n2 := 17) (m' := m.cas aP w w2) (yc := SS.Y ⟨0, 7, w, wt, a, b, c, n, br⟩ to lk bp) k12 k9 k10 hr k14 hbp.1 hy0 hx (by decide) (by decide) (by decide) rfl rfl rfl rfl rfl rfl (by show (bp.names _ && true) = true; rw [hbn]; rfl) h2n h2.o1 hbp.1 h2.o2 ⟨rfl, rfl⟩
    rw [show rens (pR 17 [19, 17] (fun b => b) 17) (SS.Y ⟨0, 7, w, wt, a, b, c, n, br⟩ to lk bp) = SS.Y ⟨0, 7, w, wt, a, b, c, n, br⟩ to lk (bp.ren (pR 17 [19, 17] (fun b => b) 17)) from rfl, hb2] at fin
    refine ⟨_, oL2, o2, bp, o14, _, h2.ren (pR 17 [19, 17] (fun b => b) 17), ⟨hbp.1, ⟨rfl, rfl⟩, ?_⟩, fin⟩
    rcases hbp.2 with ⟨rfl, _⟩ | ⟨rfl, _⟩
    · exact .inl ⟨rfl, rfl⟩
    · exact .inr (.inl ⟨rfl, fun h => by cases h⟩)
theorem Y_8 (hO : SS.Ok ⟨8, 4, w, wt, a, b, c, n, br⟩ to lk) (hl : m.ms.length < 16776000) (k12 : AS.get ⟨h, 17⟩ 12 = some (.cells false (SS.Y ⟨8, 4, w, wt, a, b, c, n, br⟩ to lk bp))) (k9 : AS.get ⟨h, 17⟩ 9 = some (.cells false (m.C (LV m.ms 10)))) (k10 : AS.get ⟨h, 17⟩ 10 = some o10) (hr : RO m.ms o10) (k14 : AS.get ⟨h, 17⟩ 14 = some o14) (hbp : Bp0 ⟨8, 4, w, wt, a, b, c, n, br⟩ bp o14) (_ : ∀ a, getW m.ms a < 18446744073709551616) :
    YC ⟨8, 4, w, wt, a, b, c, n, br⟩ to lk m h (SS.step ⟨8, 4, w, wt, a, b, c, n, br⟩ to lk m) := by
  have ha : a ≤ 3 := hO.a
  have hb : b < 256 := hO.b
  have hc : c < 256 := hO.c
  have hn : n < 281474976710656 := hO.n
  have hto : to < 256 := hO.to
  have hy0 : namess (fun b => Nat.blt b 17) (SS.Y ⟨8, 4, w, wt, a, b, c, n, br⟩ to lk bp) = true := by
    show (bp.names (fun b => Nat.blt b 17) && true) = true
    rw [hbp.names]
    rfl
  obtain ⟨x1, x2, x3, x4, hx4⟩ : ∃ x1 x2 x3 x4, nx4 a b c n = (x1, x2, x3, x4) := ⟨_, _, _, _, rfl⟩
  obtain ⟨g1, g2, g3, g4⟩ := nx4_lt hb hc hx4
  obtain ⟨w2, hw2⟩ : ∃ w2, ofp 0 b 0 (mo n) = w2 := ⟨_, rfl⟩
  have es : SS.step ⟨8, 4, w, wt, a, b, c, n, br⟩ to lk m = SS.swp ⟨8, 4, w, wt, a, b, c, n, br⟩ lk m 0 b 0 (mo n) 0 9 := by
    simp only [SS.step]
  rw [es]
  unfold SS.swp
  rw [hw2]
  obtain ⟨lv, oL2, o2, h2, hp⟩ := rcas_at (m := m) (b := 9) (bL := 10) (s := { h := { bs := [(19, AObj.cells false [AV.int IntKind.u8 (Int.ofNat 0), AV.int IntKind.u8 (Int.ofNat b), AV.int IntKind.u8 (Int.ofNat 0), AV.int IntKind.u64 (Int.ofNat (mo n))]), (18, AObj.cells false [AV.int IntKind.u8 (Int.ofNat 0), AV.int IntKind.u8 (Int.ofNat b), AV.int IntKind.u8 (Int.ofNat 0), AV.int IntKind.u64 (Int.ofNat (mo n))]), (17, AObj.cells false [AV.int IntKind.u8 (Int.ofNat x1), AV.int IntKind.u8 (Int.ofNat x2), AV.int IntKind.u8 (Int.ofNat x3), AV.int IntKind.u64 (Int.ofNat x4)]), (12, AObj.cells false [AV.int IntKind.i64 (Int.ofNat 8), AV.int IntKind.i64 (Int.ofNat 4), AV.int IntKind.i64 wt, AV.int IntKind.u8 (Int.ofNat to), AV.int IntKind.i64 lk, AV.int IntKind.u64 (Int.ofNat w), AV.int IntKind.u8 (Int.ofNat a), AV.int IntKind.u8 (Int.ofNat b), AV.int IntKind.u8 (Int.ofNat c), AV.int IntKind.u64 (Int.ofNat n), bp]), (9, AObj.cells false (m.C (LV m.ms 10))), (10, o10), (14, o14)], len := 7, esc := none, wr := [] }, nx := 20 }) rfl rfl hr (by decide) hl aP (by decide) w w2
  by_cases hd : m.casd aP w = true
  · rw [hd] at hp
    have hx := runX_sound mixed none_sound (y8_y to a b c n w 0 w2 0 0 0 0 0 x1 x2 x3 x4 0 0 0 0 lk wt bp (.cells false (m.C (LV m.ms 10))) (.cells false ((m.cas aP w w2).C lv)) o10 oL2 o14 o2 (mayP a b c && decide (a ≠ 0)) 0 0 0 .nilPtr .nilPtr .nilPtr .nilPtr) ⟨rnextq ha hn hx4, q_inc n hn, q_mask n hn, rphq (by omega) hb (by omega) (by have := mo_lt n; omega) hw2, escAny hp _, trivial⟩
    simp only [hd, if_true]
    have h2n := h2.names (pN 17 [20, 21]) rfl rfl
    have fin := mkY2 (n1 := 20) (n2 := 21) (m' := m.cas aP w w2) (yc := SS.Y ⟨0, 9, w2, wt, 0, b, 0, mo n, newB (mo n) lk⟩ to lk (.ptr 21 0)) (pC := .cells false ((newB (mo n) lk).RO 0)) k12 k9 k10 hr k14 hbp.1 hy0 hx (by decide) (by decide) (by decide) rfl rfl rfl rfl rfl rfl rfl h2n h2.o1 hbp.1 h2.o2 ⟨rfl, rfl⟩
    rw [show rens (pR 17 [20, 21] (fun b => b) 17) (SS.Y ⟨0, 9, w2, wt, 0, b, 0, mo n, newB (mo n) lk⟩ to lk (.ptr 21 0)) = SS.Y ⟨0, 9, w2, wt, 0, b, 0, mo n, newB (mo n) lk⟩ to lk (.ptr 18 0) from rfl] at fin
    exact ⟨_, oL2, o2, .ptr 18 0, o14, .cells false ((newB (mo n) lk).RO 0), h2.ren (pR 17 [20, 21] (fun b => b) 17), ⟨hbp.1, ⟨rfl, rfl⟩, .inr (.inr ⟨rfl, fun _ => rfl⟩)⟩, fin⟩
  · have hd0 : m.casd aP w = false := by simpa using hd
    rw [hd0] at hp
    have hx := runX_sound mixed none_sound (y8_n to a b c n w 0 w2 0 0 0 0 0 x1 x2 x3 x4 0 0 0 0 lk wt bp (.cells false (m.C (LV m.ms 10))) (.cells false ((m.cas aP w w2).C lv)) o10 oL2 o14 o2 (mayP a b c && decide (a ≠ 0)) 0 0 0 .nilPtr .nilPtr .nilPtr .nilPtr) ⟨rnextq ha hn hx4, q_inc n hn, q_mask n hn, rphq (by omega) hb (by omega) (by have := mo_lt n; omega) hw2, escAny hp _, trivial⟩
    simp only [hd0, Bool.false_eq_true, if_false]
    have h2n := h2.names (pN 17 [20, 17]) rfl rfl
    have hb2 : bp.ren (pR 17 [20, 17] (fun b => b) 17) = bp := by rcases hbp.2 with ⟨rfl, _⟩ | ⟨rfl, _⟩ <;> rfl
    have hbn : bp.names (pN 17 [20, 17]) = true := by rcases hbp.2 with ⟨rfl, _⟩ | ⟨rfl, _⟩ <;> rfl
    have fin := mkY2 (n1 := 20) (n2 := 17) (m' := m.cas aP w w2) (yc := SS.Y ⟨0, 7, w, wt, a, b, c, n, br⟩ to lk bp) k12 k9 k10 hr k14 hbp.1 hy0 hx (by decide) (by decide) (by decide) rfl rfl rfl rfl rfl rfl (by show (bp.names _ && true) = true; rw [hbn]; rfl) h2n h2.o1 hbp.1 h2.o2 ⟨rfl, rfl⟩
    rw [show rens (pR 17 [20, 17] (fun b => b) 17) (SS.Y ⟨0, 7, w, wt, a, b, c, n, br⟩ to lk bp) = SS.Y ⟨0, 7, w, wt, a, b, c, n, br⟩ to lk (bp.ren (pR 17 [20, 17] (fun b => b) 17)) from rfl, hb2] at fin
    refine ⟨_, oL2, o2, bp, o14, _, h2.ren (pR 17 [20, 17] (fun b => b) 17), ⟨hbp.1, ⟨rfl, rfl⟩, ?_⟩, fin⟩
    rcases hbp.2 with ⟨rfl, _⟩ | ⟨rfl, _⟩
    · exact .inl ⟨rfl, rfl⟩
    · exact .inr (.inl ⟨rfl, fun h => by cases h⟩)
end
theorem step_k (b : Br) (v : Nat) : (b.step v).2 = 0 ∨ (b.step v).2 = 1 ∨ (b.step v).2 = 2 := by
  unfold Br.step
  split
  · split <;> simp
  · split
    · dsimp only
      split <;> simp
    · split
      · split <;> simp
      · simp
theorem barR_at {b : Br} (hB : b.Ok) {m : PM} (hv : getW m.ms b.adr < 18446744073709551616) {oL : AObj} (hr : RO m.ms oL) (hl : m.ms.length < 16777000) {s : AS} (k14 : s.get 14 = some (.cells false (b.RO 0))) (k9 : s.get 9 = some (.cells false (m.C (LV m.ms 10)))) (k10 : s.get 10 = some oL) :
    Sound Tryz.prog (.call 59 [.ptr 14 0, .ptr 9 0] s) ⟨.ret, [undefA], ((s.set 14 (.cells false ((b.step (getW m.ms b.adr)).1.RO (b.step (getW m.ms b.adr)).2))).set 9 (.cells false ((m.load b.adr).C (LV m.ms 10)))).set 10 oL⟩ := by
  obtain ⟨s1, hx, j14, j9, j10⟩ := barR_small hB hv hr hl
  have e14 : objAt s1 14 = .cells false ((b.step (getW m.ms b.adr)).1.RO (b.step (getW m.ms b.adr)).2) := by simp [objAt, j14]
  have e9 : objAt s1 9 = .cells false ((m.load b.adr).C (LV m.ms 10)) := by simp [objAt, j9]
  have e10 : objAt s1 10 = oL := by simp [objAt, j10]
  have := ext0 hx (by decide) (s := s) (fun x hx => by cases hx)
    ⟨⟨show 14 < 17 by decide, rfl, Br.RO_names _ _ _, rfl, k14, by rw [e14]; exact .inl rfl, by rw [e14]; exact Br.RO_names _ _ _⟩, ⟨show 9 < 17 by decide, rfl, C_names _ _ _ (LV_names _ _ _ rfl), rfl, k9, by rw [e9]; exact .inl rfl, by rw [e9]; exact C_names _ _ _ (LV_names _ _ _ rfl)⟩,
      ⟨show 10 < 17 by decide, hr.free.1, hr.free.nm _, rfl, k10, by rw [e10]; exact .inl hr.free.1, by rw [e10]; exact hr.free.nm _⟩, trivial⟩
    (show [14, 9, 10].Nodup by decide) rfl rfl
  simp only [List.map_cons, List.map_nil, setL, e14, e9, e10] at this
  exact this
theorem begP_ne {a b c n t : Nat} (h : a ≠ 0) : (begP a b c n t).2 ≠ 0 := by
  unfold begP
  split
  · simp
  · first
    | simp
    | (rw [if_pos h]; simp)
theorem begP_may {a b c n t : Nat} (h : mayP a b c = false) : (begP a b c n t).2 ≠ 0 := by
  unfold begP
  rw [h]
  simp
theorem raspq (v : Nat) (hv : v < 18446744073709551616) : (Qst.pure [] 31 [.int .u64 (Int.ofNat v)] (.agg (phC (cz (v % 8)) (v / 8 % 8) (v / 64 % 8) (v / 65536 % 281474976710656)))).ok Tryz.prog := fun s _ => rasp_call v hv s
section
variable {w a b c n to : Nat} {wt lk : Int} {br : Br} {m : PM} {h : AH} {bp : AV} {o10 o14 : AObj}
theorem Y_1 (hO : SS.Ok ⟨1, 4, w, wt, a, b, c, n, br⟩ to lk) (hl : m.ms.length < 16776000) (k12 : AS.get ⟨h, 17⟩ 12 = some (.cells false (SS.Y ⟨1, 4, w, wt, a, b, c, n, br⟩ to lk bp))) (k9 : AS.get ⟨h, 17⟩ 9 = some (.cells false (m.C (LV m.ms 10)))) (k10 : AS.get ⟨h, 17⟩ 10 = some o10) (hr : RO m.ms o10) (k14 : AS.get ⟨h, 17⟩ 14 = some o14) (hbp : Bp0 ⟨1, 4, w, wt, a, b, c, n, br⟩ bp o14) (hmv : ∀ a, getW m.ms a < 18446744073709551616) :
    YC ⟨1, 4, w, wt, a, b, c, n, br⟩ to lk m h (SS.step ⟨1, 4, w, wt, a, b, c, n, br⟩ to lk m) := by
  have ha : a ≤ 3 := hO.a
  have hb : b < 256 := hO.b
  have hc : c < 256 := hO.c
  have hn : n < 281474976710656 := hO.n
  have hto : to < 256 := hO.to
  have hl2 : m.ms.length < 16777000 := by omega
  have hy0 : namess (fun b => Nat.blt b 17) (SS.Y ⟨1, 4, w, wt, a, b, c, n, br⟩ to lk bp) = true := by
    show (bp.names (fun b => Nat.blt b 17) && true) = true
    rw [hbp.names]
    rfl
  obtain ⟨x1, x2, x3, x4, hx4⟩ : ∃ x1 x2 x3 x4, nx4 a b c n = (x1, x2, x3, x4) := ⟨_, _, _, _, rfl⟩
  show YC _ to lk m h (SS.one ⟨1, 4, w, wt, a, b, c, n, br⟩ to lk (getW m.ms aP), m.load aP)
  obtain ⟨v, hvv⟩ : ∃ v, getW m.ms aP = v := ⟨_, rfl⟩
  have hv : v < 18446744073709551616 := hvv ▸ hmv aP
  have hld : ∀ s : AS, s.get 9 = some (.cells false (m.C (LV m.ms 10))) → s.get 10 = some o10 → Sound Tryz.prog (.call 32 [.ptr 9 0, .agg (ak aP)] s) ⟨.ret, [.int .u64 (Int.ofNat v)], s.set 9 (.cells false ((m.load aP).C (LV m.ms 10)))⟩ := fun s j9 j10 => hvv ▸ rload_at j9 j10 hr (by decide) hl2 aP
  rw [hvv]
  have hq := raspq v hv
  have hA : cz (v % 8) ≤ 3 := cz_lt _
  have hB8 : v / 8 % 8 < 256 := by omega
  have hC8 : v / 64 % 8 < 256 := by omega
  have hN : v / 65536 % 281474976710656 < 281474976710656 := Nat.mod_lt _ (by omega)
  unfold SS.one
  generalize cz (v % 8) = a2 at hq hA ⊢
  generalize v / 8 % 8 = b2n at hq hB8 ⊢
  generalize v / 64 % 8 = c2 at hq hC8 ⊢
  generalize v / 65536 % 281474976710656 = n2n at hq hN ⊢
  obtain ⟨q1, q2, q3, q4, hq4⟩ : ∃ q1 q2 q3 q4, bg4 a2 b2n c2 n2n to = (q1, q2, q3, q4) := ⟨_, _, _, _, rfl⟩
  have hR2 : Row2 m.ms 10 17 (LV m.ms 10) o10 (.cells false []) := .inl ⟨rfl, hr, rfl, rfl⟩
  have fin0 : ∀ {e : AExit} {s1 : AS} {ln2 en2 : Nat}, Sound Tryz.prog (.call 34 [.ptr 12 0, .ptr 9 0] (canF [(12, .cells false (SS.Y ⟨1, 4, w, wt, a, b, c, n, br⟩ to lk bp)), (9, .cells false (m.C (LV m.ms 10))), (10, o10), (14, o14)] [] 4 17)) ⟨e, [undefA], s1⟩ → s1.get 12 = some (.cells false (SS.Y ⟨ln2, en2, v, wt, a2, b2n, c2, n2n, br⟩ to lk bp)) → s1.get 9 = some (.cells false ((m.load aP).C (LV m.ms 10))) → s1.get 10 = some o10 → s1.get 14 = some o14 → SS.live ⟨ln2, en2, v, wt, a2, b2n, c2, n2n, br⟩ = false →
      YC ⟨1, 4, w, wt, a, b, c, n, br⟩ to lk m h (⟨ln2, en2, v, wt, a2, b2n, c2, n2n, br⟩, m.load aP) := fun {e s1 ln2 en2} hx j12 j9 j10 j14 hlv => by
    refine ⟨LV m.ms 10, o10, .cells false [], bp, o14, .cells false [], hR2, ⟨hbp.1, ⟨rfl, rfl⟩, ?_⟩, mkY0 (m' := m.load aP) k12 k9 k10 hr k14 hbp.1 hy0 hx j12 j9 j10 j14 (by show (bp.names _ && true) = true; rw [hbp.names]; rfl) hbp.1⟩
    rcases hbp.2 with ⟨rfl, _⟩ | ⟨rfl, _⟩
    · exact .inl ⟨rfl, hlv⟩
    · exact .inr (.inl ⟨rfl, fun h => by rw [hlv] at h; cases h⟩)
  by_cases hm : mayP a2 b2n c2 = true
  · by_cases h3 : a2 = 3
    · by_cases ht : c2 = to
      · rw [if_pos (by rw [hm]; simp [h3, ht])]
        have hx := runX_sound mixed none_sound (y1_6 to a b c n w v 0 0 a2 b2n c2 n2n x1 x2 x3 x4 0 0 0 0 lk wt bp (.cells false (m.C (LV m.ms 10))) (.cells false ((m.load aP).C (LV m.ms 10))) o10 o10 o14 .dead (mayP a b c && decide (a ≠ 0)) 0 0 0 .nilPtr .nilPtr .nilPtr .nilPtr) ⟨rnextq ha hn hx4, hld _ rfl rfl, hq, mayRq a2 b2n c2 n2n true hA hm, qeq a2 3 true (by simp [h3]), qeq c2 to true (by simp [ht]), trivial⟩
        have fin := mkY2 (n1 := 17) (n2 := 18) (m' := m.load aP) (lv := LV m.ms 10) (yc := SS.Y ⟨6, 4, v, wt, a2, b2n, c2, n2n, newB n2n lk⟩ to lk (.ptr 18 0)) (oL := o10) (o14' := o14) (pA := .cells false [.int .u8 (Int.ofNat x1), .int .u8 (Int.ofNat x2), .int .u8 (Int.ofNat x3), .int .u64 (Int.ofNat x4)]) (pC := .cells false ((newB n2n lk).RO 0)) k12 k9 k10 hr k14 hbp.1 hy0 hx (by decide) (by decide) (by decide) rfl rfl rfl rfl rfl rfl rfl (LV_names _ _ _ rfl) ⟨.inl hr.free.1, hr.free.nm⟩ hbp.1 ⟨rfl, rfl⟩ ⟨rfl, rfl⟩
        rw [show rens (pR 17 [17, 18] (fun b => b) 17) (SS.Y ⟨6, 4, v, wt, a2, b2n, c2, n2n, newB n2n lk⟩ to lk (.ptr 18 0)) = SS.Y ⟨6, 4, v, wt, a2, b2n, c2, n2n, newB n2n lk⟩ to lk (.ptr 18 0) from rfl, LV_ren] at fin
        exact ⟨LV m.ms 10, o10, _, .ptr 18 0, o14, .cells false ((newB n2n lk).RO 0), .inl ⟨rfl, hr, rfl, rfl⟩, ⟨hbp.1, ⟨rfl, rfl⟩, .inr (.inr ⟨rfl, fun _ => rfl⟩)⟩, fin⟩
      · have he : (begP a2 b2n c2 n2n to).2 ≠ 0 := begP_ne (by omega)
        rw [if_neg (by simp [ht]), if_neg he]
        exact fin0 (runX_sound mixed none_sound (y1_c to a b c n w v 0 (begP a2 b2n c2 n2n to).2 a2 b2n c2 n2n x1 x2 x3 x4 q1 q2 q3 q4 lk wt bp (.cells false (m.C (LV m.ms 10))) (.cells false ((m.load aP).C (LV m.ms 10))) o10 o10 o14 .dead (mayP a b c && decide (a ≠ 0)) 0 0 0 .nilPtr .nilPtr .nilPtr .nilPtr) ⟨rnextq ha hn hx4, hld _ rfl rfl, hq, mayRq a2 b2n c2 n2n true hA hm, qeq a2 3 true (by simp [h3]), qeq c2 to false (by simp [ht]), rbeginq hA hN hq4, qne _ 0 true (by simp [he]), trivial⟩) rfl rfl rfl rfl rfl
    · by_cases he : (begP a2 b2n c2 n2n to).2 = 0
      · rw [if_neg (by simp [h3]), if_pos he]
        exact fin0 (runX_sound mixed none_sound (y1_2 to a b c n w v 0 (begP a2 b2n c2 n2n to).2 a2 b2n c2 n2n x1 x2 x3 x4 q1 q2 q3 q4 lk wt bp (.cells false (m.C (LV m.ms 10))) (.cells false ((m.load aP).C (LV m.ms 10))) o10 o10 o14 .dead (mayP a b c && decide (a ≠ 0)) 0 0 0 .nilPtr .nilPtr .nilPtr .nilPtr) ⟨rnextq ha hn hx4, hld _ rfl rfl, hq, mayRq a2 b2n c2 n2n true hA hm, qeq a2 3 false (by simp [h3]), rbeginq hA hN hq4, qne _ 0 false (by simp [he]), trivial⟩) rfl rfl rfl rfl rfl
      · rw [if_neg (by simp [h3]), if_neg he]
        exact fin0 (runX_sound mixed none_sound (y1_b to a b c n w v 0 (begP a2 b2n c2 n2n to).2 a2 b2n c2 n2n x1 x2 x3 x4 q1 q2 q3 q4 lk wt bp (.cells false (m.C (LV m.ms 10))) (.cells false ((m.load aP).C (LV m.ms 10))) o10 o10 o14 .dead (mayP a b c && decide (a ≠ 0)) 0 0 0 .nilPtr .nilPtr .nilPtr .nilPtr) ⟨rnextq ha hn hx4, hld _ rfl rfl, hq, mayRq a2 b2n c2 n2n true hA hm, qeq a2 3 false (by simp [h3]), rbeginq hA hN hq4, qne _ 0 true (by simp [he]), trivial⟩) rfl rfl rfl rfl rfl
  · have hm0 : mayP a2 b2n c2 = false := by simpa using hm
    have he : (begP a2 b2n c2 n2n to).2 ≠ 0 := begP_may hm0
    rw [if_neg (by simp [hm0]), if_neg he]
    exact fin0 (runX_sound mixed none_sound (y1_a to a b c n w v 0 (begP a2 b2n c2 n2n to).2 a2 b2n c2 n2n x1 x2 x3 x4 q1 q2 q3 q4 lk wt bp (.cells false (m.C (LV m.ms 10))) (.cells false ((m.load aP).C (LV m.ms 10))) o10 o10 o14 .dead (mayP a b c && decide (a ≠ 0)) 0 0 0 .nilPtr .nilPtr .nilPtr .nilPtr) ⟨rnextq ha hn hx4, hld _ rfl rfl, hq, mayRq a2 b2n c2 n2n false hA hm0, rbeginq hA hN hq4, qne _ 0 true (by simp [he]), trivial⟩) rfl rfl rfl rfl rfl
theorem Y_3 (hO : SS.Ok ⟨3, 4, w, wt, a, b, c, n, br⟩ to lk) (hl : m.ms.length < 16776000) (k12 : AS.get ⟨h, 17⟩ 12 = some (.cells false (SS.Y ⟨3, 4, w, wt, a, b, c, n, br⟩ to lk bp))) (k9 : AS.get ⟨h, 17⟩ 9 = some (.cells false (m.C (LV m.ms 10)))) (k10 : AS.get ⟨h, 17⟩ 10 = some o10) (hr : RO m.ms o10) (k14 : AS.get ⟨h, 17⟩ 14 = some o14) (hbp : Bp0 ⟨3, 4, w, wt, a, b, c, n, br⟩ bp o14) (hmv : ∀ a, getW m.ms a < 18446744073709551616) :
    YC ⟨3, 4, w, wt, a, b, c, n, br⟩ to lk m h (SS.step ⟨3, 4, w, wt, a, b, c, n, br⟩ to lk m) := by
  have ha : a ≤ 3 := hO.a
  have hb : b < 256 := hO.b
  have hc : c < 256 := hO.c
  have hn : n < 281474976710656 := hO.n
  have hto : to < 256 := hO.to
  have hl2 : m.ms.length < 16777000 := by omega
  have hy0 : namess (fun b => Nat.blt b 17) (SS.Y ⟨3, 4, w, wt, a, b, c, n, br⟩ to lk bp) = true := by
    show (bp.names (fun b => Nat.blt b 17) && true) = true
    rw [hbp.names]
    rfl
  obtain ⟨x1, x2, x3, x4, hx4⟩ : ∃ x1 x2 x3 x4, nx4 a b c n = (x1, x2, x3, x4) := ⟨_, _, _, _, rfl⟩
  have hB : br.Ok := hO.br rfl
  obtain ⟨rfl, ho14⟩ : bp = .ptr 14 0 ∧ o14 = .cells false (br.RO 0) := by
    rcases hbp.2 with ⟨_, h⟩ | ⟨h1, h2⟩
    · cases h
    · exact ⟨h1, h2 rfl⟩
  subst ho14
  have hbar := fun (s : AS) (j14 : s.get 14 = some (.cells false (br.RO 0))) (j9 : s.get 9 = some (.cells false (m.C (LV m.ms 10)))) (j10 : s.get 10 = some o10) => barR_at hB (hmv br.adr) hr hl2 j14 j9 j10
  have es : SS.step ⟨3, 4, w, wt, a, b, c, n, br⟩ to lk m = (SS.bar ⟨3, 4, w, wt, a, b, c, n, br⟩ (br.step (getW m.ms br.adr)), m.load br.adr) := rfl
  rw [es]
  have hk := step_k br (getW m.ms br.adr)
  obtain ⟨b', k, hbk⟩ : ∃ b' k, br.step (getW m.ms br.adr) = (b', k) := ⟨_, _, rfl⟩
  rw [hbk] at hk ⊢
  simp only [hbk] at hbar
  have hk : k = 0 ∨ k = 1 ∨ k = 2 := hk
  have hR2 : Row2 m.ms 10 17 (LV m.ms 10) o10 (.cells false []) := .inl ⟨rfl, hr, rfl, rfl⟩
  have fin0 : ∀ {e : AExit} {s1 : AS} {ln2 en2 : Nat} {o14' : AObj}, Sound Tryz.prog (.call 34 [.ptr 12 0, .ptr 9 0] (canF [(12, .cells false (SS.Y ⟨3, 4, w, wt, a, b, c, n, br⟩ to lk (.ptr 14 0))), (9, .cells false (m.C (LV m.ms 10))), (10, o10), (14, .cells false (br.RO 0))] [] 4 17)) ⟨e, [undefA], s1⟩ → s1.get 12 = some (.cells false (SS.Y ⟨ln2, en2, w, b'.wt, a, b, c, n, b'⟩ to lk (.ptr 14 0))) → s1.get 9 = some (.cells false ((m.load br.adr).C (LV m.ms 10))) → s1.get 10 = some o10 → s1.get 14 = some o14' → Free o14' → (SS.live ⟨ln2, en2, w, b'.wt, a, b, c, n, b'⟩ = true → o14' = .cells false (b'.RO 0)) →
      YC ⟨3, 4, w, wt, a, b, c, n, br⟩ to lk m h (⟨ln2, en2, w, b'.wt, a, b, c, n, b'⟩, m.load br.adr) := fun {e s1 ln2 en2 o14'} hx j12 j9 j10 j14 hf hlv => by
    exact ⟨LV m.ms 10, o10, .cells false [], .ptr 14 0, o14', .cells false [], hR2, ⟨hf, ⟨rfl, rfl⟩, .inr (.inl ⟨rfl, hlv⟩)⟩, mkY0 (m' := m.load br.adr) k12 k9 k10 hr k14 hbp.1 hy0 hx j12 j9 j10 j14 rfl hf⟩
  rcases hk with rfl | rfl | rfl
  · exact fin0 (ln2 := 3) (en2 := 4) (runX_sound mixed none_sound (y3_c to a b c n w 0 0 0 0 0 0 0 x1 x2 x3 x4 0 0 0 0 lk wt .nilPtr (.cells false (m.C (LV m.ms 10))) (.cells false ((m.load br.adr).C (LV m.ms 10))) o10 o10 (.cells false (br.RO 0)) .dead (mayP a b c && decide (a ≠ 0)) (Int.ofNat (b'.at_ + 1)) b'.wt (Int.ofNat 4) (.int .u64 (Int.ofNat b'.num)) (.int .i64 b'.lk) (.int .i64 (Int.ofNat b'.th)) (.int .i64 (Int.ofNat b'.all))) ⟨rnextq ha hn hx4, hbar _ rfl rfl rfl, q_gt0 (by simp), trivial⟩) rfl rfl rfl rfl ⟨rfl, rfl⟩ (fun _ => rfl)
  · exact fin0 (ln2 := 4) (en2 := 4) (runX_sound mixed none_sound (y3_o to a b c n w 0 0 0 0 0 0 0 x1 x2 x3 x4 0 0 0 0 lk wt .nilPtr (.cells false (m.C (LV m.ms 10))) (.cells false ((m.load br.adr).C (LV m.ms 10))) o10 o10 (.cells false (br.RO 0)) .dead (mayP a b c && decide (a ≠ 0)) (Int.ofNat 0) b'.wt (Int.ofNat 0) (.int .u64 (Int.ofNat b'.num)) (.int .i64 b'.lk) (.int .i64 (Int.ofNat b'.th)) (.int .i64 (Int.ofNat b'.all))) ⟨rnextq ha hn hx4, hbar _ rfl rfl rfl, q_gt0 (by simp), by simp [Qst.ok], trivial⟩) rfl rfl rfl rfl ⟨rfl, rfl⟩ (fun h => by cases h)
  · exact fin0 (ln2 := 8) (en2 := 4) (runX_sound mixed none_sound (y3_g to a b c n w 0 0 0 0 0 0 0 x1 x2 x3 x4 0 0 0 0 lk wt .nilPtr (.cells false (m.C (LV m.ms 10))) (.cells false ((m.load br.adr).C (LV m.ms 10))) o10 o10 (.cells false (br.RO 0)) .dead (mayP a b c && decide (a ≠ 0)) (Int.ofNat 0) b'.wt (Int.ofNat 9) (.int .u64 (Int.ofNat b'.num)) (.int .i64 b'.lk) (.int .i64 (Int.ofNat b'.th)) (.int .i64 (Int.ofNat b'.all))) ⟨rnextq ha hn hx4, hbar _ rfl rfl rfl, q_gt0 (by simp), by simp [Qst.ok], trivial⟩) rfl rfl rfl rfl ⟨rfl, rfl⟩ (fun h => by cases h)
theorem Y_6 (hO : SS.Ok ⟨6, 4, w, wt, a, b, c, n, br⟩ to lk) (hl : m.ms.length < 16776000) (k12 : AS.get ⟨h, 17⟩ 12 = some (.cells false (SS.Y ⟨6, 4, w, wt, a, b, c, n, br⟩ to lk bp))) (k9 : AS.get ⟨h, 17⟩ 9 = some (.cells false (m.C (LV m.ms 10)))) (k10 : AS.get ⟨h, 17⟩ 10 = some o10) (hr : RO m.ms o10) (k14 : AS.get ⟨h, 17⟩ 14 = some o14) (hbp : Bp0 ⟨6, 4, w, wt, a, b, c, n, br⟩ bp o14) (hmv : ∀ a, getW m.ms a < 18446744073709551616) :
    YC ⟨6, 4, w, wt, a, b, c, n, br⟩ to lk m h (SS.step ⟨6, 4, w, wt, a, b, c, n, br⟩ to lk m) := by
  have ha : a ≤ 3 := hO.a
  have hb : b < 256 := hO.b
  have hc : c < 256 := hO.c
  have hn : n < 281474976710656 := hO.n
  have hto : to < 256 := hO.to
  have hl2 : m.ms.length < 16777000 := by omega
  have hy0 : namess (fun b => Nat.blt b 17) (SS.Y ⟨6, 4, w, wt, a, b, c, n, br⟩ to lk bp) = true := by
    show (bp.names (fun b => Nat.blt b 17) && true) = true
    rw [hbp.names]
    rfl
  obtain ⟨x1, x2, x3, x4, hx4⟩ : ∃ x1 x2 x3 x4, nx4 a b c n = (x1, x2, x3, x4) := ⟨_, _, _, _, rfl⟩
  have hB : br.Ok := hO.br rfl
  obtain ⟨rfl, ho14⟩ : bp = .ptr 14 0 ∧ o14 = .cells false (br.RO 0) := by
    rcases hbp.2 with ⟨_, h⟩ | ⟨h1, h2⟩
    · cases h
    · exact ⟨h1, h2 rfl⟩
  subst ho14
  have hbar := fun (s : AS) (j14 : s.get 14 = some (.cells false (br.RO 0))) (j9 : s.get 9 = some (.cells false (m.C (LV m.ms 10)))) (j10 : s.get 10 = some o10) => barR_at hB (hmv br.adr) hr hl2 j14 j9 j10
  have es : SS.step ⟨6, 4, w, wt, a, b, c, n, br⟩ to lk m = (SS.bar ⟨6, 4, w, wt, a, b, c, n, br⟩ (br.step (getW m.ms br.adr)), m.load br.adr) := rfl
  rw [es]
  have hk := step_k br (getW m.ms br.adr)
  obtain ⟨b', k, hbk⟩ : ∃ b' k, br.step (getW m.ms br.adr) = (b', k) := ⟨_, _, rfl⟩
  rw [hbk] at hk ⊢
  simp only [hbk] at hbar
  have hk : k = 0 ∨ k = 1 ∨ k = 2 := hk
  have hR2 : Row2 m.ms 10 17 (LV m.ms 10) o10 (.cells false []) := .inl ⟨rfl, hr, rfl, rfl⟩
  have fin0 : ∀ {e : AExit} {s1 : AS} {ln2 en2 : Nat} {o14' : AObj}, Sound Tryz.prog (.call 34 [.ptr 12 0, .ptr 9 0] (canF [(12, .cells false (SS.Y ⟨6, 4, w, wt, a, b, c, n, br⟩ to lk (.ptr 14 0))), (9, .cells false (m.C (LV m.ms 10))), (10, o10), (14, .cells false (br.RO 0))] [] 4 17)) ⟨e, [undefA], s1⟩ → s1.get 12 = some (.cells false (SS.Y ⟨ln2, en2, w, b'.wt, a, b, c, n, b'⟩ to lk (.ptr 14 0))) → s1.get 9 = some (.cells false ((m.load br.adr).C (LV m.ms 10))) → s1.get 10 = some o10 → s1.get 14 = some o14' → Free o14' → (SS.live ⟨ln2, en2, w, b'.wt, a, b, c, n, b'⟩ = true → o14' = .cells false (b'.RO 0)) →
      YC ⟨6, 4, w, wt, a, b, c, n, br⟩ to lk m h (⟨ln2, en2, w, b'.wt, a, b, c, n, b'⟩, m.load br.adr) := fun {e s1 ln2 en2 o14'} hx j12 j9 j10 j14 hf hlv => by
    exact ⟨LV m.ms 10, o10, .cells false [], .ptr 14 0, o14', .cells false [], hR2, ⟨hf, ⟨rfl, rfl⟩, .inr (.inl ⟨rfl, hlv⟩)⟩, mkY0 (m' := m.load br.adr) k12 k9 k10 hr k14 hbp.1 hy0 hx j12 j9 j10 j14 rfl hf⟩
  rcases hk with rfl | rfl | rfl
  · exact fin0 (ln2 := 6) (en2 := 4) (runX_sound mixed none_sound (y6_c to a b c n w 0 0 0 0 0 0 0 x1 x2 x3 x4 0 0 0 0 lk wt .nilPtr (.cells false (m.C (LV m.ms 10))) (.cells false ((m.load br.adr).C (LV m.ms 10))) o10 o10 (.cells false (br.RO 0)) .dead (mayP a b c && decide (a ≠ 0)) (Int.ofNat (b'.at_ + 1)) b'.wt (Int.ofNat 4) (.int .u64 (Int.ofNat b'.num)) (.int .i64 b'.lk) (.int .i64 (Int.ofNat b'.th)) (.int .i64 (Int.ofNat b'.all))) ⟨rnextq ha hn hx4, hbar _ rfl rfl rfl, q_gt0 (by simp), trivial⟩) rfl rfl rfl rfl ⟨rfl, rfl⟩ (fun _ => rfl)
  · exact fin0 (ln2 := 7) (en2 := 4) (runX_sound mixed none_sound (y6_o to a b c n w 0 0 0 0 0 0 0 x1 x2 x3 x4 0 0 0 0 lk wt .nilPtr (.cells false (m.C (LV m.ms 10))) (.cells false ((m.load br.adr).C (LV m.ms 10))) o10 o10 (.cells false (br.RO 0)) .dead (mayP a b c && decide (a ≠ 0)) (Int.ofNat 0) b'.wt (Int.ofNat 0) (.int .u64 (Int.ofNat b'.num)) (.int .i64 b'.lk) (.int .i64 (Int.ofNat b'.th)) (.int .i64 (Int.ofNat b'.all))) ⟨rnextq ha hn hx4, hbar _ rfl rfl rfl, q_gt0 (by simp), by simp [Qst.ok], trivial⟩) rfl rfl rfl rfl ⟨rfl, rfl⟩ (fun h => by cases h)
  · exact fin0 (ln2 := 0) (en2 := 9) (runX_sound mixed none_sound (y6_g to a b c n w 0 0 0 0 0 0 0 x1 x2 x3 x4 0 0 0 0 lk wt .nilPtr (.cells false (m.C (LV m.ms 10))) (.cells false ((m.load br.adr).C (LV m.ms 10))) o10 o10 (.cells false (br.RO 0)) .dead (mayP a b c && decide (a ≠ 0)) (Int.ofNat 0) b'.wt (Int.ofNat 9) (.int .u64 (Int.ofNat b'.num)) (.int .i64 b'.lk) (.int .i64 (Int.ofNat b'.th)) (.int .i64 (Int.ofNat b'.all))) ⟨rnextq ha hn hx4, hbar _ rfl rfl rfl, q_gt0 (by simp), by simp [Qst.ok], trivial⟩) rfl rfl rfl rfl ⟨rfl, rfl⟩ (fun h => by cases h)
end
end Go.Proofs.YtchekpapgfojhaaGreatDoor.ctlsFallback
