/- A step of a scan, out of that of its part; rows. Conditions: those that each theorem names, and no others. -/
import Derived.Test.YtofbdgmknfbkfaaGreatDoorLife7
namespace Go.Mini
open Go Go.RowKit
theorem At.same {P : Program} {bs : List (Nat × AObj)} {Fz : List (Nat × List AV)} {s s2 : AS} {π : Nat → Nat} (A : At P bs Fz s π) (hb : s2.h.bs = s.h.bs) (hn : s2.nx = s.nx) : At P bs Fz s2 π := by
  have g : ∀ b, s2.get b = s.get b := fun b => by show getB _ _ = getB _ _; rw [hb]
  refine ⟨A.glob, fun x hx => by rw [g]; exact A.fz x hx, A.out, A.inj, eachX_all fun x hx => by rw [g]; exact eachX_mem A.at_ x hx, by rw [hb, hn]; exact A.keys⟩
/-- What two calls do to where things lie. -/
theorem Moved.comp {nx0 : Nat} {bs bs1 bs2 : List (Nat × AObj)} {π π1 π2 κ κ2 κ3 : Nat → Nat} {s s1 s2 : AS} (h1 : Moved nx0 bs bs1 π π1 κ s s1) (h2 : Moved nx0 bs1 bs2 π1 π2 κ2 s1 s2) (hk : ∀ b, b < nx0 → κ3 b = b → κ b = b ∧ κ2 b = b) : Moved nx0 bs bs2 π π2 κ3 s s2 := by
  refine ⟨fun b hb => ?_, fun b hb hk3 => ?_, fun c hc hd => ?_, Nat.le_trans h1.nx h2.nx⟩
  · rcases h2.old b hb with ⟨d, hd, e⟩ | e
    · rcases h1.old d hd with ⟨d', hd', e'⟩ | e'
      · exact .inl ⟨d', hd', e.trans e'⟩
      · exact .inr (by rw [e]; exact e')
    · exact .inr (Nat.le_trans h1.nx e)
  · obtain ⟨k1, k2⟩ := hk b hb hk3
    rw [h2.low b hb k2, h1.low b hb k1]
  · rw [h2.rest c (Nat.lt_of_lt_of_le hc h1.nx) fun d hdd e => ?_, h1.rest c hc hd]
    rcases h1.old d hdd with ⟨d', hd', e'⟩ | e'
    · exact hd d' hd' (e'.symm.trans e)
    · omega
theorem Moved.same {nx0 : Nat} {bs bs1 : List (Nat × AObj)} {π π1 κ : Nat → Nat} {s s1 t t1 : AS} (h : Moved nx0 bs bs1 π π1 κ s s1) (hb : t.h.bs = s.h.bs) (hn : t.nx = s.nx) (hb1 : t1.h.bs = s1.h.bs) (hn1 : t1.nx = s1.nx) : Moved nx0 bs bs1 π π1 κ t t1 := by
  have g : ∀ b, t.get b = s.get b := fun b => by show getB _ _ = getB _ _; rw [hb]
  have g1 : ∀ b, t1.get b = s1.get b := fun b => by show getB _ _ = getB _ _; rw [hb1]
  exact ⟨fun b hb => by rw [hn]; exact h.old b hb, h.low, fun c hc hd => by rw [g, g1]; exact h.rest c (by rw [← hn]; exact hc) hd, by rw [hn, hn1]; exact h.nx⟩
end Go.Mini
namespace Go.Proofs.YtofbdgmknfbkfaaGreatDoor.nodesLife
open Go Go.Mini
/-! ### a scan's step, and a Gone's, out of their parts' steps -/
theorem code_at {n f j : Nat} {c : Code} {ts : List AV} {s s' : AS} {e : AExit} {v : AV} {ds : List Dec} {q : List Qst} (h : (runX Tryz.prog none_ n f (.code c ts s) ds).map (fun x => (x.1.e, x.1.s, tget x.1.ts j, x.2.2)) = some (e, s', v, q)) (hq : Qsts Tryz.prog q) : ∃ ts', tget ts' j = v ∧ Sound Tryz.prog (.code c ts s) ⟨e, ts', s'⟩ := by
  cases hr : runX Tryz.prog none_ n f (.code c ts s) ds with
  | none => rw [hr] at h; cases h
  | some x =>
    rw [hr] at h
    obtain ⟨⟨e, ts', s1⟩, ds', q'⟩ := x
    simp only [Option.map_some, Option.some.injEq, Prod.mk.injEq] at h
    obtain ⟨rfl, rfl, hj, rfl⟩ := h
    exact ⟨ts', hj, runX_sound mixed none_sound hr hq⟩
def ent (s : AS) : AS := ⟨⟨s.h.bs, s.h.len, none, []⟩, s.nx⟩
noncomputable def cOf (f : FuncId) : Code := match Tryz.prog.funcs[f]? with
  | some fn => match fn.body with
    | some c => c
    | none => .skip
  | none => .skip
theorem res4 {ts : List AV} {s : AS} {v : AV} (h : tget ts 4 = v) : resultsA Tryz.prog ts s [.tmp 4] = some [v] := by
  simp only [resultsA, resultA, h]
theorem sc_call {s s' : AS} {a b : Nat} {v : AV} {e : AExit} {ts' : List AV} (hj : tget ts' 4 = v) (h : Sound Tryz.prog (.code (cOf 78) ([.ptr a 0, .ptr b 0] ++ List.replicate 18 undefA) (ent s)) ⟨e, ts', s'⟩) (he : e = .normal ∨ e = .ret) : ∃ s2 : AS, s2.h.bs = s'.h.bs ∧ s2.nx = s'.nx ∧ Sound Tryz.prog (.call 78 [.ptr a 0, .ptr b 0] s) ⟨.ret, [v], s2⟩ := by
  have := keepC2 (s := s) (f := 78) (fn := Tryz.f78) (c := cOf 78) (args := [.ptr a 0, .ptr b 0]) (vs := [v]) Tryz.func78 (by kernel_rfl) (by rw [show Tryz.f78.ntmps = 20 from by kernel_rfl]; exact h) he (by rw [show Tryz.f78.results.toList = [.tmp 4] from by kernel_rfl]; exact res4 hj)
  exact ⟨⟨⟨s'.h.bs, s'.h.len, none, olds s.nx s'.h.wr s.h.wr⟩, s'.nx⟩, rfl, rfl, this⟩
theorem go_call {s s' : AS} {a b : Nat} {v : AV} {e : AExit} {ts' : List AV} (hj : tget ts' 4 = v) (h : Sound Tryz.prog (.code (cOf 38) ([.ptr a 0, .ptr b 0] ++ List.replicate 61 undefA) (ent s)) ⟨e, ts', s'⟩) (he : e = .normal ∨ e = .ret) : ∃ s2 : AS, s2.h.bs = s'.h.bs ∧ s2.nx = s'.nx ∧ Sound Tryz.prog (.call 38 [.ptr a 0, .ptr b 0] s) ⟨.ret, [v], s2⟩ := by
  have := keepC2 (s := s) (f := 38) (fn := Tryz.f38) (c := cOf 38) (args := [.ptr a 0, .ptr b 0]) (vs := [v]) Tryz.func38 (by kernel_rfl) (by rw [show Tryz.f38.ntmps = 63 from by kernel_rfl]; exact h) he (by rw [show Tryz.f38.results.toList = [.tmp 4] from by kernel_rfl]; exact res4 hj)
  exact ⟨⟨⟨s'.h.bs, s'.h.len, none, olds s.nx s'.h.wr s.h.wr⟩, s'.nx⟩, rfl, rfl, this⟩
/-- Functions of the parts' steps, by their types. -/
def stepOf (t : TypeId) : FuncId := if t = 213 then 181 else if t = 228 then 184 else if t = 231 then 191 else if t = 233 then 195 else 40
def scT (a b : Nat) : List AV := [.ptr a 0, .ptr b 0] ++ List.replicate 18 undefA
def scQ0 (t : TypeId) (s s1 s2 : AS) (a b p : Nat) (d : Bool) : List Qst := [.snd (.call 98 [.ptr a 0] s) ⟨.ret, [.bool false], s1⟩, .ld 207 s1 (.ptr a 2) (.iface t (.ptr p 0)), .snd (.call (stepOf t) [.ptr p 0, .ptr b 0] s1) ⟨.ret, [.bool d], s2⟩]
def scQn (s s1 s2 s3 : AS) (t : TypeId) (a b p : Nat) : List Qst := scQ0 t s s1 s2 a b p false ++ [.snd (.call 98 [.ptr a 0] s2) ⟨.ret, [.bool false], s3⟩]
def scQy (s s1 s2 s3 s4 : AS) (t : TypeId) (a b p : Nat) (d : Bool) : List Qst := scQ0 t s s1 s2 a b p true ++ [.snd (.call 102 [.ptr a 0] s2) ⟨.ret, [.tuple []], s3⟩, .snd (.call 98 [.ptr a 0] s3) ⟨.ret, [.bool d], s4⟩]
def scDn (s1 s2 s3 : AS) (t : TypeId) (p : Nat) : List Dec := [.call 78 1 1 (.bool false) (fun _ => s1), .val 78 1 7 (.iface t (.ptr p 0)), .call 78 1 9 (.bool false) (fun _ => s2), .call 78 3 1 (.bool false) (fun _ => s3)]
def scDy (s1 s2 s3 s4 : AS) (t : TypeId) (p : Nat) (d : Bool) : List Dec := [.call 78 1 1 (.bool false) (fun _ => s1), .val 78 1 7 (.iface t (.ptr p 0)), .call 78 1 9 (.bool true) (fun _ => s2), .call 78 2 1 (.tuple []) (fun _ => s3), .call 78 3 1 (.bool d) (fun _ => s4)]
noncomputable def scR (s : AS) (a b : Nat) (ds : List Dec) : Option (AExit × AS × AV × List Qst) := (runX Tryz.prog none_ 60 78 (.code (cOf 78) (scT a b) s) ds).map (fun x => (x.1.e, x.1.s, tget x.1.ts 4, x.2.2))
theorem w_nL (s s1 s2 s3 : AS) (a b p : Nat) : scR s a b (scDn s1 s2 s3 213 p) = some (.ret, s3, .bool false, scQn s s1 s2 s3 213 a b p) := by kernel_rfl
theorem w_yL (s s1 s2 s3 s4 : AS) (a b p : Nat) (d : Bool) : scR s a b (scDy s1 s2 s3 s4 213 p d) = some (.ret, s4, .bool d, scQy s s1 s2 s3 s4 213 a b p d) := by kernel_rfl
theorem w_nA (s s1 s2 s3 : AS) (a b p : Nat) : scR s a b (scDn s1 s2 s3 228 p) = some (.ret, s3, .bool false, scQn s s1 s2 s3 228 a b p) := by kernel_rfl
theorem w_yA (s s1 s2 s3 s4 : AS) (a b p : Nat) (d : Bool) : scR s a b (scDy s1 s2 s3 s4 228 p d) = some (.ret, s4, .bool d, scQy s s1 s2 s3 s4 228 a b p d) := by kernel_rfl
theorem w_nB (s s1 s2 s3 : AS) (a b p : Nat) : scR s a b (scDn s1 s2 s3 231 p) = some (.ret, s3, .bool false, scQn s s1 s2 s3 231 a b p) := by kernel_rfl
theorem w_yB (s s1 s2 s3 s4 : AS) (a b p : Nat) (d : Bool) : scR s a b (scDy s1 s2 s3 s4 231 p d) = some (.ret, s4, .bool d, scQy s s1 s2 s3 s4 231 a b p d) := by kernel_rfl
theorem w_nT (s s1 s2 s3 : AS) (a b p : Nat) : scR s a b (scDn s1 s2 s3 233 p) = some (.ret, s3, .bool false, scQn s s1 s2 s3 233 a b p) := by kernel_rfl
theorem w_yT (s s1 s2 s3 s4 : AS) (a b p : Nat) (d : Bool) : scR s a b (scDy s1 s2 s3 s4 233 p d) = some (.ret, s4, .bool d, scQy s s1 s2 s3 s4 233 a b p d) := by kernel_rfl
theorem w_nF (s s1 s2 s3 : AS) (a b p : Nat) : scR s a b (scDn s1 s2 s3 53 p) = some (.ret, s3, .bool false, scQn s s1 s2 s3 53 a b p) := by kernel_rfl
theorem w_yF (s s1 s2 s3 s4 : AS) (a b p : Nat) (d : Bool) : scR s a b (scDy s1 s2 s3 s4 53 p d) = some (.ret, s4, .bool d, scQy s s1 s2 s3 s4 53 a b p d) := by kernel_rfl
def goT (a b : Nat) : List AV := [.ptr a 0, .ptr b 0] ++ List.replicate 61 undefA
theorem w_go (s s1 s2 s3 s4 : AS) (a b p q : Nat) (d d' : Bool) : (runX Tryz.prog none_ 60 38 (.code (cOf 38) (goT a b) s) [.call 38 2 1 (.bool false) (fun _ => s1), .val 38 4 3 (.ptr p 0), .call 38 4 4 (.bool true) (fun _ => s2), .val 38 1 3 (.ptr q 0), .call 38 1 5 (.bool d') (fun _ => s3), .call 38 7 1 (.bool d) (fun _ => s4)]).map (fun x => (x.1.e, x.1.s, tget x.1.ts 4, x.2.2)) =
  some (.ret, s4, .bool d, [.snd (.call 71 [.ptr a 0] s) ⟨.ret, [.bool false], s1⟩, .ld 149 s1 (.ptr a 4) (.ptr p 0), .snd (.call 72 [.ptr p 0] s1) ⟨.ret, [.bool true], s2⟩, .ld 151 s2 (.ptr a 5) (.ptr q 0), .snd (.call 78 [.ptr q 0, .ptr b 0] s2) ⟨.ret, [.bool d'], s3⟩, .snd (.call 71 [.ptr a 0] s3) ⟨.ret, [.bool d], s4⟩]) := by kernel_rfl
end Go.Proofs.YtofbdgmknfbkfaaGreatDoor.nodesLife
namespace Go.Proofs.YtofbdgmknfbkfaaGreatDoor.nodesLife
open Go Go.Mini
/-! ### readers, and the walks -/
theorem leave_ent (s : AS) (v : AV) (hv : v.young (s.nx - 1) = false) : leave s (ent s) v = s := by
  obtain ⟨⟨bs, len, esc, wr⟩, nx⟩ := s
  cases esc <;> simp [leave, keeps, ent, olds, minE] <;> simpa using hv
theorem rd_of {f n : Nat} {args : List AV} {s : AS} {v : AV} {ds : List Dec} {q : List Qst} (h : (runX Tryz.prog none_ n f (.call f args s) ds).map (fun x => (x.1.e, x.1.ts, x.1.s, x.2.2)) = some (.ret, [v], leave s (ent s) v, q)) (hv : v.young (s.nx - 1) = false) (hq : Qsts Tryz.prog q) : Sound Tryz.prog (.call f args s) ⟨.ret, [v], s⟩ := by
  cases hr : runX Tryz.prog none_ n f (.call f args s) ds with
  | none => rw [hr] at h; cases h
  | some x =>
    rw [hr] at h
    obtain ⟨⟨e, ts, s1⟩, ds', q'⟩ := x
    simp only [Option.map_some, Option.some.injEq, Prod.mk.injEq] at h
    obtain ⟨rfl, rfl, rfl, rfl⟩ := h
    have h2 := leave_ent s v hv
    rw [h2] at hr
    exact (runX_sound mixed none_sound hr hq)
theorem so_n (s : AS) (b t p : Nat) : (runX Tryz.prog none_ 60 98 (.call 98 [.ptr b 0] s) [.val 98 1 6 (.iface t (.ptr p 0))]).map (fun x => (x.1.e, x.1.ts, x.1.s, x.2.2)) = some (.ret, [.bool false], leave s (ent s) (.bool false), [.ld 207 (ent s) (.ptr b 2) (.iface t (.ptr p 0))]) := by kernel_rfl
theorem so_y (s : AS) (b : Nat) : (runX Tryz.prog none_ 60 98 (.call 98 [.ptr b 0] s) [.val 98 1 6 .nilIface]).map (fun x => (x.1.e, x.1.ts, x.1.s, x.2.2)) = some (.ret, [.bool true], leave s (ent s) (.bool true), [.ld 207 (ent s) (.ptr b 2) .nilIface]) := by kernel_rfl
theorem ro_y (s : AS) (b : Nat) : (runX Tryz.prog none_ 60 72 (.call 72 [.ptr b 0] s) [.val 72 1 6 (i64 0)]).map (fun x => (x.1.e, x.1.ts, x.1.s, x.2.2)) = some (.ret, [.bool true], leave s (ent s) (.bool true), [.ld 3 (ent s) (.ptr b 1) (i64 0)]) := by kernel_rfl
theorem go_o (s : AS) (a p q : Nat) (d : Bool) : (runX Tryz.prog none_ 60 71 (.call 71 [.ptr a 0] s) [.val 71 1 6 (.ptr p 0), .call 71 1 7 (.bool true) (fun _ => ent s), .val 71 1 12 (.ptr q 0), .call 71 1 13 (.bool d) (fun _ => ent s)]).map (fun x => (x.1.e, x.1.ts, x.1.s, x.2.2)) =
  some (.ret, [.bool d], leave s (ent s) (.bool d), [.ld 149 (ent s) (.ptr a 4) (.ptr p 0), .snd (.call 72 [.ptr p 0] (ent s)) ⟨.ret, [.bool true], ent s⟩, .ld 151 (ent s) (.ptr a 5) (.ptr q 0), .snd (.call 98 [.ptr q 0] (ent s)) ⟨.ret, [.bool d], ent s⟩]) := by kernel_rfl
theorem cA : isAggA Tryz.prog 207 = some false := by kernel_rfl
theorem cR : isAggA Tryz.prog 149 = some false := by kernel_rfl
theorem cS : isAggA Tryz.prog 151 = some false := by kernel_rfl
theorem cI : isAggA Tryz.prog 3 = some false := by kernel_rfl
/-- What a scan does now: something, or nothing. -/
def NowOk (d : Bool) (now : AV) : Prop := (d = true ∧ now = .nilIface) ∨ (d = false ∧ ∃ t p, now = .iface t (.ptr p 0))
end Go.Proofs.YtofbdgmknfbkfaaGreatDoor.nodesLife
namespace Go.Proofs.YtofbdgmknfbkfaaGreatDoor.nodesLife
open Go Go.Mini
/-! ### a scan's step out of its part's -/
section
variable {bs : List (Nat × AObj)} {s : AS} {π : Nat → Nat}
theorem at_g (A : At Tryz.prog bs GF s π) {b : Nat} {o : AObj} (h : (b, o) ∈ bs) : s.get (π b) = some (o.ren π) := eachX_mem A.at_ (b, o) h
theorem ren_at {π : Nat → Nat} : ∀ {cs : List AV} {i : Nat} {v : AV}, cs[i]? = some v → (rens π cs)[i]? = some (v.ren π)
  | [], i, v, h => by simp at h
  | c :: cs, 0, v, h => by
    have h : c = v := by simpa using h
    subst h
    rfl
  | c :: cs, i + 1, v, h => by
    have h : cs[i]? = some v := by simpa using h
    exact ren_at (cs := cs) (i := i) h
theorem at_ld (A : At Tryz.prog bs GF s π) {b i : Nat} {cs : List AV} {t : TypeId} {v : AV} (h : (b, AObj.cells false cs) ∈ bs) (hi : cs[i]? = some v) (ht : isAggA Tryz.prog t = some false) : loadA Tryz.prog s t (.ptr (π b) i) = some (v.ren π) := ld_cell ht (at_g A h) (ren_at hi)
theorem so_at (A : At Tryz.prog bs GF s π) {b : Nat} {cs : List AV} {d : Bool} {now : AV} (h : (b, AObj.cells false cs) ∈ bs) (hi : cs[2]? = some now) (hn : NowOk d now) : Sound Tryz.prog (.call 98 [.ptr (π b) 0] s) ⟨.ret, [.bool d], s⟩ := by
  have A' : At Tryz.prog bs GF (ent s) π := A.same rfl rfl
  have hl := at_ld A' (t := 207) h hi cA
  rcases hn with ⟨rfl, rfl⟩ | ⟨rfl, t, p, rfl⟩
  · exact rd_of (so_y s (π b)) rfl ⟨hl, trivial⟩
  · exact rd_of (so_n s (π b) t (π p)) rfl ⟨hl, trivial⟩
theorem ro_at (A : At Tryz.prog bs GF s π) {b : Nat} {cs : List AV} (h : (b, AObj.cells false cs) ∈ bs) (hi : cs[1]? = some (i64 0)) : Sound Tryz.prog (.call 72 [.ptr (π b) 0] s) ⟨.ret, [.bool true], s⟩ := by
  have A' : At Tryz.prog bs GF (ent s) π := A.same rfl rfl
  exact rd_of (ro_y s (π b)) rfl ⟨at_ld A' (t := 3) h hi cI, trivial⟩
theorem go_at (A : At Tryz.prog bs GF s π) {c1 c2 c3 : List AV} {a b : Nat} {d : Bool} {now : AV} (h : (18, AObj.cells false c1) ∈ bs) (hp : c1[4]? = some (.ptr a 0)) (hq : c1[5]? = some (.ptr b 0)) (h2 : (a, AObj.cells false c2) ∈ bs) (hi : c2[1]? = some (i64 0)) (h3 : (b, AObj.cells false c3) ∈ bs) (hi3 : c3[2]? = some now) (hn : NowOk d now) :
    Sound Tryz.prog (.call 71 [.ptr (π 18) 0] s) ⟨.ret, [.bool d], s⟩ := by
  have A' : At Tryz.prog bs GF (ent s) π := A.same rfl rfl
  exact rd_of (go_o s (π 18) (π a) (π b) d) rfl ⟨at_ld A' (t := 149) h hp cR, ro_at A' h2 hi, at_ld A' (t := 151) h hq cS, so_at A' h3 hi3 hn, trivial⟩
end
def isPart (t : TypeId) : Prop := t = 213 ∨ t = 228 ∨ t = 231 ∨ t = 233 ∨ t = 53
theorem w_n (s s1 s2 s3 : AS) (a b p : Nat) {t : TypeId} (ht : isPart t) : scR s a b (scDn s1 s2 s3 t p) = some (.ret, s3, .bool false, scQn s s1 s2 s3 t a b p) := by
  rcases ht with rfl | rfl | rfl | rfl | rfl
  · exact w_nL ..
  · exact w_nA ..
  · exact w_nB ..
  · exact w_nT ..
  · exact w_nF ..
theorem w_y (s s1 s2 s3 s4 : AS) (a b p : Nat) (d : Bool) {t : TypeId} (ht : isPart t) : scR s a b (scDy s1 s2 s3 s4 t p d) = some (.ret, s4, .bool d, scQy s s1 s2 s3 s4 t a b p d) := by
  rcases ht with rfl | rfl | rfl | rfl | rfl
  · exact w_yL ..
  · exact w_yA ..
  · exact w_yB ..
  · exact w_yT ..
  · exact w_yF ..
def kc (κ κ2 : Nat → Nat) (b : Nat) : Nat := if κ b = b ∧ κ2 b = b then b else b + 1
theorem kc_ok {κ κ2 : Nat → Nat} {b : Nat} (h : kc κ κ2 b = b) : κ b = b ∧ κ2 b = b := by
  unfold kc at h
  split at h
  · assumption
  · omega
theorem kc_eq {κ κ2 : Nat → Nat} {b : Nat} (h : κ b = b) (h2 : κ2 b = b) : kc κ κ2 b = b := if_pos ⟨h, h2⟩
/-- A step of a scan's part, that is not over. -/
theorem sc_walk_n {bs bs1 : List (Nat × AObj)} {κ : Nat → Nat} {t t' : TypeId} {p' : Nat} {cs cs' : List AV} (ht : isPart t) (hs : StepF Tryz.prog GF 24 (stepOf t) aA (.bool false) bs bs1 κ) (h9 : (9, AObj.cells false cs) ∈ bs) (h2 : cs[2]? = some (.iface t (.ptr 15 0))) (h9' : (9, AObj.cells false cs') ∈ bs1) (h2' : cs'[2]? = some (.iface t' (.ptr p' 0))) (k9 : κ 9 = 9) :
    StepF Tryz.prog GF 24 78 [.ptr 9 0, .ptr 7 0] (.bool false) bs bs1 κ := by
  intro s π A
  have A0 : At Tryz.prog bs GF (ent s) π := A.same rfl rfl
  obtain ⟨s2, π2, hS, A2, Mv⟩ := hs (ent s) π A0
  have p9 : π2 9 = π 9 := Mv.low 9 (by decide) k9
  have q2 := so_at A2 h9' h2' (d := false) (.inr ⟨rfl, t', p', rfl⟩)
  rw [p9] at q2
  obtain ⟨ts', hj, hC⟩ := code_at (w_n (ent s) (ent s) s2 s2 (π 9) (π 7) (π 15) ht) ⟨so_at A0 h9 h2 (.inr ⟨rfl, _, _, rfl⟩), at_ld A0 h9 h2 cA, hS, q2, trivial⟩
  obtain ⟨s3, e1, e2, hF⟩ := sc_call (s := s) hj hC (.inr rfl)
  exact ⟨s3, π2, hF, A2.same e1 e2, Mv.same rfl rfl e1 e2⟩
/-- One that is over. -/
theorem sc_walk_y {bs bs1 bs2 : List (Nat × AObj)} {κ κ2 : Nat → Nat} {t : TypeId} {d : Bool} {now : AV} {cs cs' : List AV} (ht : isPart t) (hs : StepF Tryz.prog GF 24 (stepOf t) aA (.bool true) bs bs1 κ) (hn : StepF Tryz.prog GF 24 102 aN (.tuple []) bs1 bs2 κ2) (h9 : (9, AObj.cells false cs) ∈ bs) (h2 : cs[2]? = some (.iface t (.ptr 15 0))) (h9' : (9, AObj.cells false cs') ∈ bs2) (h2' : cs'[2]? = some now) (hnow : NowOk d now) (k9 : κ 9 = 9) (k92 : κ2 9 = 9) :
    StepF Tryz.prog GF 24 78 [.ptr 9 0, .ptr 7 0] (.bool d) bs bs2 (kc κ κ2) := by
  intro s π A
  have A0 : At Tryz.prog bs GF (ent s) π := A.same rfl rfl
  obtain ⟨s2, π2, hS, A2, Mv⟩ := hs (ent s) π A0
  have p9 : π2 9 = π 9 := Mv.low 9 (by decide) k9
  obtain ⟨s3, π3, hN, A3, Mv3⟩ := hn s2 π2 A2
  have p93 : π3 9 = π2 9 := Mv3.low 9 (by decide) k92
  have hN : Sound Tryz.prog (.call 102 [.ptr (π2 9) 0] s2) ⟨.ret, [.tuple []], s3⟩ := hN
  rw [p9] at hN
  have q3 := so_at A3 h9' h2' hnow
  rw [p93, p9] at q3
  obtain ⟨ts', hj, hC⟩ := code_at (w_y (ent s) (ent s) s2 s3 s3 (π 9) (π 7) (π 15) d ht) ⟨so_at A0 h9 h2 (.inr ⟨rfl, _, _, rfl⟩), at_ld A0 h9 h2 cA, hS, hN, q3, trivial⟩
  obtain ⟨s4, e1, e2, hF⟩ := sc_call (s := s) hj hC (.inr rfl)
  exact ⟨s4, π3, hF, A3.same e1 e2, (Mv.comp Mv3 fun b _ h => kc_ok h).same rfl rfl e1 e2⟩
/-- A Gone's step out of its scan's. -/
theorem go_walk {bs bs1 : List (Nat × AObj)} {κ : Nat → Nat} {d : Bool} {now now' : AV} {thr most thr' most' : Nat} {c2 c2' c3 c3' : List AV} (hs : StepF Tryz.prog GF 24 78 [.ptr 9 0, .ptr 7 0] (.bool d) bs bs1 κ) (h18 : (18, goO thr most (.ptr 9 0)) ∈ bs) (h19 : (19, AObj.cells false c2) ∈ bs) (i19 : c2[1]? = some (i64 0)) (h9 : (9, AObj.cells false c3) ∈ bs) (i9 : c3[2]? = some now) (n9 : NowOk false now)
    (h18' : (18, goO thr' most' (.ptr 9 0)) ∈ bs1) (h19' : (19, AObj.cells false c2') ∈ bs1) (i19' : c2'[1]? = some (i64 0)) (h9' : (9, AObj.cells false c3') ∈ bs1) (i9' : c3'[2]? = some now') (n9' : NowOk d now') (k18 : κ 18 = 18) : StepF Tryz.prog GF 24 38 aG (.bool d) bs bs1 κ := by
  intro s π A
  have A0 : At Tryz.prog bs GF (ent s) π := A.same rfl rfl
  obtain ⟨s2, π2, hS, A2, Mv⟩ := hs (ent s) π A0
  have p18 : π2 18 = π 18 := Mv.low 18 (by decide) k18
  have q2 := go_at A2 h18' rfl rfl h19' i19' h9' i9' n9'
  rw [p18] at q2
  obtain ⟨ts', hj, hC⟩ := code_at (w_go (ent s) (ent s) (ent s) s2 s2 (π 18) (π 7) (π 19) (π 9) d d) ⟨go_at A0 h18 rfl rfl h19 i19 h9 i9 n9, at_ld A0 (t := 149) (i := 4) (v := .ptr 19 0) h18 rfl cR, ro_at A0 h19 i19, at_ld A0 (t := 151) (i := 5) (v := .ptr 9 0) h18 rfl cS, hS, q2, trivial⟩
  obtain ⟨s3, e1, e2, hF⟩ := go_call (s := s) hj hC (.inr rfl)
  exact ⟨s3, π2, hF, A2.same e1 e2, Mv.same rfl rfl e1 e2⟩
end Go.Proofs.YtofbdgmknfbkfaaGreatDoor.nodesLife
namespace Go.Proofs.YtofbdgmknfbkfaaGreatDoor.nodesLife
open Go Go.Mini
/-! ### likewise, with blocks of which all that is known is that they name nothing -/
structure GR where
  f : FuncId
  args : List AV
  C : List (Nat × AObj)
  C' : List (Nat × AObj)
  kl : List (Nat × Nat)
  new : List Nat
  w : AV
  decs : List Dec
  qs : List QI
  rc : List (Nat × AObj)
  ro : List (Nat × AObj)
  rn : List (Nat × AObj)
  rc' : List (Nat × AObj)
noncomputable def GR.run (g : GR) (O7 O8 : AObj) : Option (Res × List Dec × List Qst) := runX Tryz.prog none_ 90 g.f (.call g.f g.args (canF ((7, O7) :: (8, O8) :: (g.C ++ g.rc)) GF (g.C.length + (g.rc.length + 4)) 24)) g.decs
abbrev LR : Type := LK × List (Option AObj) × List (Option AObj) × List (Option AObj)
def GR.lk (g : GR) (x : Res × List Dec × List Qst) : LR := ((x.1.ts, (x.1.s.get 7, x.1.s.get 8), g.C'.map (fun y => x.1.s.get (Go.Proofs.YtofbdgmknfbkfaaGreatDoor.nodesLife.kl g.kl y.1)), (g.C.all (fun y => oldB x.1.s g.new y.1) && g.new.all (fun b => inB (g.rn.map (·.1)) b || newB2 x.1.s g.new b)), x.2.2, seeL g.qs x.2.2), g.ro.map (fun y => x.1.s.get y.1), g.rn.map (fun y => x.1.s.get y.1), g.rc'.map (fun y => x.1.s.get (Go.Proofs.YtofbdgmknfbkfaaGreatDoor.nodesLife.kl g.kl y.1)))
def GR.want (g : GR) (P7 P8 : AObj) (x : Res × List Dec × List Qst) : LR := (([g.w], (some P7, some P8), g.C'.map (fun y => some (y.2.ren (Go.Proofs.YtofbdgmknfbkfaaGreatDoor.nodesLife.kl g.kl))), true, mkQ g.qs x.2.2, seeR g.qs), g.ro.map (fun y => some y.2), g.rn.map (fun y => some y.2), g.rc'.map (fun y => some y.2))
noncomputable def GR.L (g : GR) (O7 O8 : AObj) : Option LR := match g.run O7 O8 with
  | some x => some (g.lk x)
  | none => none
noncomputable def GR.R (g : GR) (O7 O8 P7 P8 : AObj) : Option LR := match g.run O7 O8 with
  | some x => some (g.want P7 P8 x)
  | none => some (([], (none, none), [], true, [], []), [], [], [])
def GR.ks (g : GR) : List Nat := g.C.map (·.1) ++ g.rc.map (·.1)
def GR.ks' (g : GR) : List Nat := g.C'.map (·.1) ++ g.rc'.map (·.1)
def GR.stat (g : GR) : Bool := g.C.all (fun y => y.2.rw && y.2.names (fun c => Nat.blt c 24)) && (g.ks.all (fun b => Nat.ble 9 b && Nat.blt b 24) && (nodB g.ks && (nodB g.new && (g.new.all (Nat.ble 24) &&
  (g.ks'.all (fun b => Nat.ble 9 b && (inB g.ks (Go.Proofs.YtofbdgmknfbkfaaGreatDoor.nodesLife.kl g.kl b) || inB g.new (Go.Proofs.YtofbdgmknfbkfaaGreatDoor.nodesLife.kl g.kl b))) &&
  (g.ks'.all (fun b => g.ks'.all fun c => !Nat.beq (Go.Proofs.YtofbdgmknfbkfaaGreatDoor.nodesLife.kl g.kl b) (Go.Proofs.YtofbdgmknfbkfaaGreatDoor.nodesLife.kl g.kl c) || Nat.beq b c) && (g.kl.all (fun x => Nat.ble 9 x.1) && (namess (fun c => Nat.blt c 24) g.args && (g.w.names (pN 24 g.new) && (g.rc.map (·.1)).all (inB (g.ro.map (·.1))))))))))))
/-- Of blocks that name nothing. -/
def Raw (l : List (Nat × AObj)) : Prop := ∀ y ∈ l, (y.2.rw = true ∨ y.2 = .dead) ∧ y.2.names (fun _ => false) = true
theorem raw_ren {o : AObj} (h : o.names (fun _ => false) = true) (κ : Nat → Nat) : o.ren κ = o := by
  rw [oren_congr (p := fun _ => false) (π' := fun b => b) (fun _ h => by cases h) h, oren_id]
theorem raw_any {o : AObj} (h : o.names (fun _ => false) = true) (p : Nat → Bool) : o.names p = true := onames_sub (fun _ h => by cases h) h
theorem map_get {l : List (Nat × AObj)} {f : Nat → Option AObj} (h : l.map (fun y => f y.1) = l.map (fun y => some y.2)) : ∀ y ∈ l, f y.1 = some y.2 := fun y hy => List.map_inj_left.1 h y hy
theorem gr_step {g : GR} {M M2 : PM} {v : AV} (h : g.L (.cells false (M.C (.map 8))) (mapO M.ms) = g.R (.cells false (M.C (.map 8))) (mapO M.ms) (.cells false (M2.C (.map 8))) (mapO M2.ms))
    (hq : QOk g.qs) (hs : g.stat = true) (hw : g.w = v.ren (kl g.kl)) (r1 : ∀ y ∈ g.rc, y.2.rw = true ∧ y.2.names (fun _ => false) = true) (r2 : Raw g.ro) (r3 : ∀ y ∈ g.rn, y.2.rw = true ∧ y.2.names (fun _ => false) = true) (r4 : ∀ y ∈ g.rc', y.2.names (fun _ => false) = true) :
    StepF Tryz.prog GF 24 g.f g.args v (memP M ++ (g.C ++ g.rc)) (memP M2 ++ (g.C' ++ g.rc')) (kl g.kl) := by
  simp only [GR.stat, Bool.and_eq_true] at hs
  obtain ⟨a0, a1, a2, a3, a4, a5, a6, a7, a8, a9, a10⟩ := hs
  unfold GR.L GR.R at h
  cases hr : g.run (.cells false (M.C (.map 8))) (mapO M.ms) with
  | none => rw [hr] at h; cases h
  | some x =>
    rw [hr] at h
    obtain ⟨⟨e, ts, s1⟩, ds', q'⟩ := x
    simp only [Option.some.injEq, GR.lk, GR.want, Prod.mk.injEq, Bool.and_eq_true] at h
    obtain ⟨⟨h1, ⟨h7, h8⟩, h2, ⟨h3, h4⟩, h5, h6⟩, ho, hn, hc⟩ := h
    have hQ : Qsts Tryz.prog q' := qsts_of h5 h6 hq
    subst h1
    have hrun := runX_sound mixed none_sound hr hQ
    have ho := map_get (f := fun b => s1.get b) ho
    have hn := map_get (f := fun b => s1.get b) hn
    have hc := map_get (f := fun b => s1.get (kl g.kl b)) hc
    have kin : ∀ y ∈ g.C ++ g.rc, y.1 ∈ g.ks := fun y hy => by
      unfold GR.ks
      rw [← List.map_append]
      exact List.mem_map.2 ⟨y, hy, rfl⟩
    have kin' : ∀ y ∈ g.C' ++ g.rc', y.1 ∈ g.ks' := fun y hy => by
      unfold GR.ks'
      rw [← List.map_append]
      exact List.mem_map.2 ⟨y, hy, rfl⟩
    have b0 : ∀ b ∈ g.ks, 9 ≤ b ∧ b < 24 := fun b hb => by
      have := List.all_eq_true.1 a1 b hb
      simp only [Bool.and_eq_true] at this
      exact ⟨Nat.le_of_ble_eq_true this.1, Nat.blt_eq ▸ this.2⟩
    have b1 : ∀ y ∈ g.C ++ g.rc, 9 ≤ y.1 ∧ y.1 < 24 ∧ y.2.rw = true ∧ y.2.names (fun c => Nat.blt c 24) = true := fun y hy => by
      have k := b0 y.1 (kin y hy)
      rcases List.mem_append.1 hy with hy | hy
      · have := List.all_eq_true.1 a0 y hy
        simp only [Bool.and_eq_true] at this
        exact ⟨k.1, k.2, this.1, this.2⟩
      · have := r1 y hy
        exact ⟨k.1, k.2, this.1, raw_any this.2 _⟩
    have b4 : ∀ b ∈ g.new, 24 ≤ b := fun b hb => Nat.le_of_ble_eq_true (List.all_eq_true.1 a4 b hb)
    have b5 : ∀ y ∈ g.C' ++ g.rc', 9 ≤ y.1 ∧ (kl g.kl y.1 ∈ g.ks ∨ kl g.kl y.1 ∈ g.new) := fun y hy => by
      have := List.all_eq_true.1 a5 y.1 (kin' y hy)
      simp only [Bool.and_eq_true, Bool.or_eq_true] at this
      exact ⟨Nat.le_of_ble_eq_true this.1, this.2.imp inB_iff.1 inB_iff.1⟩
    have lows : ∀ b, b < 9 → kl g.kl b = b := fun b hb => kl_low a7 hb
    have ksm : (g.C ++ g.rc).map (·.1) = g.ks := by rw [List.map_append]; rfl
    have nd : ((memP M ++ (g.C ++ g.rc)).map (·.1)).Nodup := by
      show (7 :: 8 :: (g.C ++ g.rc).map (·.1)).Nodup
      rw [ksm]
      refine List.nodup_cons.2 ⟨fun hm => ?_, List.nodup_cons.2 ⟨fun hm => ?_, nodB_ok a2⟩⟩
      · rcases List.mem_cons.1 hm with e | hm
        · cases e
        · have := b0 7 hm
          omega
      · have := b0 8 hm
        omega
    have o7 : objAt s1 7 = .cells false (M2.C (.map 8)) := by simp [objAt, h7]
    have o8 : objAt s1 8 = mapO M2.ms := by simp [objAt, h8]
    have ob : ∀ {b : Nat} {o : AObj}, s1.get b = some o → objAt s1 b = o := fun h => by simp [objAt, h]
    refine step_mk (n0 := g.C.length + (g.rc.length + 4)) hrun g.new ⟨by rw [glN]; decide, eachX_all fun x hx => ?_, nd, fun x hx => ?_⟩ (nodB_ok a3) (fun b hb => ?_) (fun c hc => lows c (by rw [glN] at hc; omega)) (fun x hx => lows x.1 (by have := (gz x hx).1; omega)) (eachX_all fun x hx => ?_) (fun b hb c hc' e => ?_) a8 (eachX_all fun x hx => ?_) a9 hw
    · have hg := getB_of nd x hx
      rcases List.mem_append.1 hx with h | h
      · simp only [memP, List.mem_cons, List.not_mem_nil, or_false] at h
        rcases h with rfl | rfl
        · exact ⟨show 7 < 24 by decide, rfl, rfl, hg⟩
        · exact ⟨show 8 < 24 by decide, rfl, mapO_names _ _, hg⟩
      · obtain ⟨_, c2, c3, c4⟩ := b1 x h
        exact ⟨c2, c3, c4, hg⟩
    · refine ⟨by have := (gz x hx).1; omega, fun hm => ?_, (gz x hx).2⟩
      obtain ⟨y, hy, e⟩ := List.mem_map.1 hm
      have h3 := (gz x hx).1
      rcases List.mem_append.1 hy with h | h
      · simp only [memP, List.mem_cons, List.not_mem_nil, or_false] at h
        rcases h with rfl | rfl
        · have e : 7 = x.1 := e
          omega
        · have e : 8 = x.1 := e
          omega
      · have := b1 y h
        omega
    · have := List.all_eq_true.1 h4 b hb
      simp only [Bool.or_eq_true] at this
      rcases this with this | this
      · obtain ⟨y, hy, rfl⟩ := List.mem_map.1 (inB_iff.1 this)
        rw [ob (hn y hy)]
        exact ⟨b4 _ hb, (r3 y hy).1, raw_any (r3 y hy).2 _⟩
      · simp only [newB2, Bool.and_eq_true] at this
        exact ⟨b4 b hb, this.1, this.2⟩
    · rcases List.mem_append.1 hx with h | h
      · simp only [memP, List.mem_cons, List.not_mem_nil, or_false] at h
        rcases h with rfl | rfl
        · rw [lows 7 (by decide)]
          exact ⟨.inl (by simp [memP]), by rw [h7]; show _ = some (AObj.cells false (M2.C (.map (kl g.kl 8)))); rw [lows 8 (by decide)]⟩
        · rw [lows 8 (by decide), mapO_ren]
          exact ⟨.inl (by simp [memP]), h8⟩
      · refine ⟨(b5 x h).2.imp (fun h => ?_) id, ?_⟩
        · rw [List.map_append, ksm]
          exact List.mem_append.2 (.inr h)
        · rcases List.mem_append.1 h with h | h
          · exact List.map_inj_left.1 h2 x h
          · rw [raw_ren (r4 x h)]
            exact hc x h
    · have k9 : ∀ y ∈ g.C' ++ g.rc', 9 ≤ kl g.kl y.1 := fun y hy => by
        rcases (b5 y hy).2 with h | h
        · exact (b0 _ h).1
        · have := b4 _ h
          omega
      obtain ⟨y, hy, rfl⟩ := List.mem_map.1 hb
      obtain ⟨z, hz, rfl⟩ := List.mem_map.1 hc'
      have lo : ∀ y ∈ memP M2, y.1 < 9 := fun y hy => by
        simp only [memP, List.mem_cons, List.not_mem_nil, or_false] at hy
        rcases hy with rfl | rfl
        · show 7 < 9; decide
        · show 8 < 9; decide
      rcases List.mem_append.1 hy with hy | hy <;> rcases List.mem_append.1 hz with hz | hz
      · rw [lows _ (lo y hy), lows _ (lo z hz)] at e
        exact e
      · rw [lows _ (lo y hy)] at e
        have := lo y hy
        have := k9 z hz
        omega
      · rw [lows _ (lo z hz)] at e
        have := lo z hz
        have := k9 y hy
        omega
      · have := List.all_eq_true.1 (List.all_eq_true.1 a6 y.1 (kin' y hy)) z.1 (kin' z hz)
        simp only [Bool.or_eq_true, Bool.not_eq_true'] at this
        rcases this with h | h
        · rw [e, Nat.beq_refl] at h
          cases h
        · exact Nat.eq_of_beq_eq_true h
    · rcases List.mem_append.1 hx with h | h
      · simp only [memP, List.mem_cons, List.not_mem_nil, or_false] at h
        rcases h with rfl | rfl
        · show ((objAt s1 7).rw = true ∨ _) ∧ _
          rw [o7]
          exact ⟨.inl rfl, rfl⟩
        · show ((objAt s1 8).rw = true ∨ _) ∧ _
          rw [o8]
          exact ⟨.inl rfl, mapO_names _ _⟩
      · rcases List.mem_append.1 h with h | h
        · have := List.all_eq_true.1 h3 x h
          simp only [oldB, Bool.and_eq_true, Bool.or_eq_true] at this
          refine ⟨this.1.imp id fun h => ?_, this.2⟩
          split at h
          · assumption
          · cases h
        · have hm := inB_iff.1 (List.all_eq_true.1 a10 x.1 (List.mem_map.2 ⟨x, h, rfl⟩))
          obtain ⟨y, hy, e⟩ := List.mem_map.1 hm
          have hg := ho y hy
          rw [show x.1 = y.1 from e.symm, ob hg]
          exact ⟨(r2 y hy).1, raw_any (r2 y hy).2 _⟩
end Go.Proofs.YtofbdgmknfbkfaaGreatDoor.nodesLife
namespace Go.Proofs.YtofbdgmknfbkfaaGreatDoor.nodesLife
open Go Go.Mini
/-! ### the end of a Free in a scan: the next one, or none -/
def refC (z : Int) (g : Nat) : List AV := [i64 z, u32 g, .bool false]
/-- What an append to the row in 21 makes of the state, or one to none. -/
def appT (rc : List (Nat × AObj)) (o : AObj) (s : AS) : AS := match rc with
  | [] => s.push o
  | _ :: _ => (s.set 21 .dead).push o
section
variable (M : PM) (O : AObj) (most y m got n k o : Nat) (z z2 : Int) (g : Nat) (R F : List AV)
def sN : AV := .slice 14 0 4 4
def g_e0 (d gs fr : AV) : GD := ⟨102, aN, [(9, scO most nFr y m sN gs fr), (15, frO z2 d 0 got)], [(9, scO most .nilIface y m sN gs fr)], [], [], .tuple [], [.val 120 0 5 (.bool true)], [vQ (.bool (decide (Int.ofNat 0 = Int.ofNat 0))) (.bool true)]⟩
def g_e1 (d fr : AV) (x : AV) (rc ro : List (Nat × AObj)) : GR := ⟨102, aN, [(9, scO most nFr y m sN (.slice 20 o (n + 1) (n + 1)) fr), (15, frO z2 d 0 got)],
  [(9, scO most nFr y m sN (.slice 20 (o + 6) n n) (.osl 21 0 (k + 1) 3)), (15, frO z hdrI 1 0), (16, hdO z nfF 0 false 0), (17, moO most)], [(21, 26), (15, 29), (16, 28), (17, 27)], [26, 27, 28, 29], .tuple [],
  [.val 120 0 5 (.bool false), .val 120 2 4 (.ptr 20 o), .val 120 2 6 (refA z g), .val 120 3 5 (.slice 20 (o + 6) n n), .eff 120 4 7 (.osl 26 0 (k + 1) 3) (appT rc (.cells false (F ++ refC z g))), .val 63 1 1 (.bool true), .val 63 1 4 (.bool true)],
  [vQ (.bool (decide (Int.ofNat (n + 1) = Int.ofNat 0))) (.bool false), .fix (.idx 138 (.slice 20 o (n + 1) (n + 1)) (i64 0) (.ptr 20 o)), .ld 74 (.ptr 20 o) (refA z g) [(20, .cells false R)], .fix (.sli 138 (.slice 20 o (n + 1) (n + 1)) (some (i64 1)) none none (.slice 20 (o + 6) n n)),
   .app 49 49 x (.slice 25 0 1 1) (.osl 26 0 (k + 1) 3) (appT rc (.cells false (F ++ refC z g))) 26 (rc ++ [(25, .cells false (refC z g))]), vQ (.bool (decide (z ≥ 0))) (.bool true), vQ (.bool (decide (z < 256))) (.bool true)],
  (20, .cells false R) :: rc, (20, .cells false R) :: ro, [(26, .cells false (F ++ refC z g))], [(20, .cells false R), (21, .cells false (F ++ refC z g))]⟩
end
section
variable (M : PM) (O : AObj) (most y m got n k o : Nat) (z z2 : Int) (g : Nat) (R F : List AV)
variable {d : AV} (hd : d = pshI ∨ d = cntI)
include hd
theorem k_e0 : GdOk (g_e0 most y m got z2 d (.slice 20 o 0 0) (.osl 21 0 k 3)) M M O O := by
  rcases hd with rfl | rfl
  · exact ⟨by kernel_rfl, by kernel_rfl⟩
  · exact ⟨by kernel_rfl, by kernel_rfl⟩
theorem k_e1 : (g_e1 most y m got n k o z z2 g R F d (.osl 21 0 k 3) (.osl 21 0 k 3) [(21, .cells false F)] [(21, .dead)]).L (mo7 M) O = (g_e1 most y m got n k o z z2 g R F d (.osl 21 0 k 3) (.osl 21 0 k 3) [(21, .cells false F)] [(21, .dead)]).R (mo7 M) O (mo7 M) O := by
  rcases hd with rfl | rfl <;> kernel_rfl
theorem q_e1 : (g_e1 most y m got n k o z z2 g R F d (.osl 21 0 k 3) (.osl 21 0 k 3) [(21, .cells false F)] [(21, .dead)]).stat = true := by
  rcases hd with rfl | rfl <;> kernel_rfl
end
/-! ### rows of entries, and of refs -/
def entC (e : Ent) : List AV := [i64 (Int.ofNat e.z), u32 e.g, .bool false, u64 e.b, u64 e.e, u64 e.r]
def entsC : List Ent → List AV
  | [] => []
  | e :: l => entC e ++ entsC l
def refsC : List RefP → List AV
  | [] => []
  | r :: l => refC (Int.ofNat r.1) r.2 ++ refsC l
theorem entsC_len : ∀ l : List Ent, (entsC l).length = l.length * 6
  | [] => rfl
  | e :: l => by
    show (entC e ++ entsC l).length = _
    rw [List.length_append, entsC_len l, List.length_cons]
    show 6 + _ = _
    omega
theorem refsC_len : ∀ l : List RefP, (refsC l).length = l.length * 3
  | [] => rfl
  | r :: l => by
    show (refC (Int.ofNat r.1) r.2 ++ refsC l).length = _
    rw [List.length_append, refsC_len l, List.length_cons]
    show 3 + _ = _
    omega
theorem namess_app {p : Nat → Bool} : ∀ {a b : List AV}, namess p a = true → namess p b = true → namess p (a ++ b) = true
  | [], _, _, h => h
  | x :: a, b, h, hb => by
    have h : (x.names p && namess p a) = true := h
    rw [Bool.and_eq_true] at h
    show (x.names p && namess p (a ++ b)) = true
    rw [h.1, namess_app h.2 hb]
    rfl
theorem entsC_names (p : Nat → Bool) : ∀ l : List Ent, namess p (entsC l) = true
  | [] => rfl
  | e :: l => namess_app (a := entC e) rfl (entsC_names p l)
theorem refsC_names (p : Nat → Bool) : ∀ l : List RefP, namess p (refsC l) = true
  | [] => rfl
  | r :: l => namess_app (a := refC (Int.ofNat r.1) r.2) rfl (refsC_names p l)
theorem refsC_app : ∀ a b : List RefP, refsC (a ++ b) = refsC a ++ refsC b
  | [], _ => rfl
  | r :: a, b => by
    show refC (Int.ofNat r.1) r.2 ++ refsC (a ++ b) = (refC (Int.ofNat r.1) r.2 ++ refsC a) ++ refsC b
    rw [refsC_app a b, List.append_assoc]
theorem entsC_app : ∀ a b : List Ent, entsC (a ++ b) = entsC a ++ entsC b
  | [], _ => rfl
  | e :: a, b => by
    show entC e ++ entsC (a ++ b) = (entC e ++ entsC a) ++ entsC b
    rw [entsC_app a b, List.append_assoc]
theorem all_one_app {a b : List AV} (ha : a.all AV.one = true) (hb : b.all AV.one = true) : (a ++ b).all AV.one = true := by rw [List.all_append, ha, hb]; rfl
theorem refsC_one : ∀ l : List RefP, (refsC l).all AV.one = true
  | [] => rfl
  | r :: l => all_one_app (a := refC (Int.ofNat r.1) r.2) rfl (refsC_one l)
theorem entsC_one : ∀ l : List Ent, (entsC l).all AV.one = true
  | [] => rfl
  | e :: l => all_one_app (a := entC e) rfl (entsC_one l)
theorem rowR : rowT Tryz.prog 49 49 3 = true := by kernel_rfl
theorem rowE : rowT Tryz.prog 138 138 6 = true := by kernel_rfl
/-- The entries that are still to be freed lie from o on. -/
def GoesAt (R : List AV) (o : Nat) (l : List Ent) : Prop := R.drop o = entsC l ∧ namess (fun _ => false) R = true
theorem GoesAt.tl {R : List AV} {o : Nat} {e : Ent} {l : List Ent} (h : GoesAt R o (e :: l)) : GoesAt R (o + 6) l := by
  refine ⟨?_, h.2⟩
  rw [← List.drop_drop, h.1]
  rfl
theorem uE : Tryz.prog.underlying 138 = some (.slice 197) := by kernel_rfl
theorem zE : sizeA Tryz.prog 197 = some 6 := by kernel_rfl
theorem gE : isAggA Tryz.prog 74 = some true := by kernel_rfl
theorem zR : sizeA Tryz.prog 74 = some 3 := by kernel_rfl
theorem idx0 (b o n : Nat) : indexAddrA Tryz.prog 138 (.slice b o (n + 1) (n + 1)) (i64 0) = some (.ptr b o) := by
  simp only [indexAddrA, i64, uE, zE]
  rw [if_pos ⟨Int.le_refl 0, by omega⟩]
  rfl
theorem sli1 (b o n : Nat) : sliceA Tryz.prog 138 (.slice b o (n + 1) (n + 1)) (some (i64 1)) none none = some (.slice b (o + 6) n n) := by
  have h : boundA (some (i64 1)) 0 (n + 1) = some 1 := by
    simp only [boundA, i64]
    rw [if_pos (by omega)]
    rfl
  have bn : ∀ d m : Nat, boundA none d m = some d := fun _ _ => rfl
  simp only [sliceA, uE, zE, bn, h]
  simp
theorem ldRef {s : AS} {R : List AV} {o : Nat} {e : Ent} {l : List Ent} (hs : s.get 20 = some (.cells false R)) (hR : GoesAt R o (e :: l)) : loadA Tryz.prog s 74 (.ptr 20 o) = some (refA (Int.ofNat e.z) e.g) := by
  simp only [loadA, gE, zR, readA, hs, hR.1]
  rfl
theorem e_nx {most y m got k o : Nat} {z2 : Int} {d : AV} {R : List AV} {e : Ent} {l : List Ent} {F : List RefP} (hd : d = pshI ∨ d = cntI) (hR : GoesAt R o (e :: l)) (hz : e.z < 16) (hk : F.length = k) (hk2 : k < 16777216) (M : PM) :
    SF 102 aN (.tuple []) M M ([(9, scO most nFr y m sN (.slice 20 o (l.length + 1) (l.length + 1)) (.osl 21 0 k 3)), (15, frO z2 d 0 got)] ++ [(20, .cells false R), (21, .cells false (refsC F))])
      ([(9, scO most nFr y m sN (.slice 20 (o + 6) l.length l.length) (.osl 21 0 (k + 1) 3)), (15, frO (Int.ofNat e.z) hdrI 1 0), (16, hdO (Int.ofNat e.z) nfF 0 false 0), (17, moO most)] ++ [(20, .cells false R), (21, .cells false (refsC (F ++ [e.ref])))]) (kl [(21, 26), (15, 29), (16, 28), (17, 27)]) := by
  have rf : refsC (F ++ [e.ref]) = refsC F ++ refC (Int.ofNat e.z) e.g := by rw [refsC_app]; rfl
  rw [rf]
  have hn := refsC_names (fun _ => false) F
  have hn2 : namess (fun _ => false) (refsC F ++ refC (Int.ofNat e.z) e.g) = true := namess_app hn rfl
  refine gr_step (g := g_e1 most y m got l.length k o (Int.ofNat e.z) z2 e.g R (refsC F) d (.osl 21 0 k 3) (.osl 21 0 k 3) [(21, .cells false (refsC F))] [(21, .dead)]) (k_e1 M (mapO M.ms) most y m got l.length k o (Int.ofNat e.z) z2 e.g R (refsC F) hd) ?_ (q_e1 most y m got l.length k o (Int.ofNat e.z) z2 e.g R (refsC F) hd) rfl (fun x hx => ?_) (fun x hx => ?_) (fun x hx => ?_) (fun x hx => ?_)
  · refine vn_ok (fun h => by cases h) ⟨?_, fun s hs => ?_, ?_, fun s hn hs => ?_, vb_ok (Int.natCast_nonneg _) (vb_ok (by simp only [Int.ofNat_eq_natCast]; omega) trivial)⟩
    · exact idx0 20 o l.length
    · exact ldRef (hs (20, .cells false R) (by simp)) hR
    · exact sli1 20 o l.length
    · have := app_osl (P := Tryz.prog) (s := s) (b := 21) (b2 := 25) (c2 := 1) rowR (hs (21, .cells false (refsC F)) (by simp)) (by rw [refsC_len, hk]) (refsC_one F) (hs (25, .cells false (refC (Int.ofNat e.z) e.g)) (by simp)) rfl rfl hk2
      rw [hn] at this
      exact this
  · simp only [g_e1, List.mem_cons, List.not_mem_nil, or_false] at hx
    rcases hx with rfl | rfl
    · exact ⟨rfl, hR.2⟩
    · exact ⟨rfl, hn⟩
  · simp only [g_e1, List.mem_cons, List.not_mem_nil, or_false] at hx
    rcases hx with rfl | rfl
    · exact ⟨.inl rfl, hR.2⟩
    · exact ⟨.inr rfl, rfl⟩
  · simp only [g_e1, List.mem_cons, List.not_mem_nil, or_false] at hx
    subst hx
    exact ⟨rfl, hn2⟩
  · simp only [g_e1, List.mem_cons, List.not_mem_nil, or_false] at hx
    rcases hx with rfl | rfl
    · exact hR.2
    · exact hn2
end Go.Proofs.YtofbdgmknfbkfaaGreatDoor.nodesLife
namespace Go.Proofs.YtofbdgmknfbkfaaGreatDoor.nodesLife
open Go Go.Mini
/-! ### refs that were retired -/
def rk (x : Int × Nat) : List AV := [.int .i64 x.1, .int .u32 (Int.ofNat x.2), .bool false]
def hadE (l : List (Int × Nat)) : List (AV × AV) := l.map fun x => (.agg (rk x), .int .i64 (Int.ofNat 1))
def hadO (l : List (Int × Nat)) (ix : List Nat) (n : Nat) : AObj := .map (hadE l) ix n
theorem eqR_bif (s : AS) (a1 : Int) (a2 : Nat) (b1 : Int) (b2 : Nat) : eqA Tryz.prog s 8 74 (.agg [.int .i64 a1, .int .u32 (Int.ofNat a2), .bool false]) (.agg [.int .i64 b1, .int .u32 (Int.ofNat b2), .bool false]) =
    (bif a1 == b1 then (bif Int.ofNat a2 == Int.ofNat b2 then some true else some false) else some false) := by kernel_rfl
theorem eqR (s : AS) (a b : Int × Nat) : eqA Tryz.prog s 8 74 (.agg (rk a)) (.agg (rk b)) = some (decide (a = b)) := by
  obtain ⟨a1, a2⟩ := a
  obtain ⟨b1, b2⟩ := b
  refine (eqR_bif s a1 a2 b1 b2).trans ?_
  by_cases h1 : a1 = b1
  · by_cases h2 : a2 = b2
    · simp [h1, h2]
    · have : (Int.ofNat a2 == Int.ofNat b2) = false := by simp; omega
      rw [this]
      simp [h1, h2]
  · have : (a1 == b1) = false := by simpa using h1
    rw [this]
    simp [h1]
theorem find_hadj (s : AS) (a : Int × Nat) : ∀ (l : List (Int × Nat)) (i : Nat), a ∈ l → ∃ j k v, findA Tryz.prog s 74 (.agg (rk a)) (hadE l) i = some (some (i + j, k, v)) ∧ l[j]? = some a
  | [], _, h => by cases h
  | x :: t, i, hm => by
    have he := eqR s a x
    rw [show hadE (x :: t) = (.agg (rk x), .int .i64 (Int.ofNat 1)) :: hadE t from rfl]
    by_cases h : a = x
    · have hd : decide (a = x) = true := by simpa using h
      rw [hd] at he
      exact ⟨0, .agg (rk x), .int .i64 (Int.ofNat 1), by simp only [findA, he, Nat.add_zero], by rw [h]; rfl⟩
    · have hd : decide (a = x) = false := by simpa using h
      rw [hd] at he
      rcases List.mem_cons.1 hm with e | hm
      · exact absurd e h
      · obtain ⟨j, k, v, h1, h2⟩ := find_hadj s a t (i + 1) hm
        refine ⟨j + 1, k, v, ?_, by simpa using h2⟩
        simp only [findA, he, h1]
        rw [show i + 1 + j = i + (j + 1) by omega]
theorem find_had (s : AS) (a : Int × Nat) : ∀ (l : List (Int × Nat)) (i : Nat), (a ∉ l → findA Tryz.prog s 74 (.agg (rk a)) (hadE l) i = some none) ∧ (a ∈ l → ∃ j k, findA Tryz.prog s 74 (.agg (rk a)) (hadE l) i = some (some (j, k, .int .i64 (Int.ofNat 1))))
  | [], _ => ⟨fun _ => rfl, fun h => by cases h⟩
  | x :: t, i => by
    have he := eqR s a x
    obtain ⟨h1, h2⟩ := find_had s a t (i + 1)
    rw [show hadE (x :: t) = (.agg (rk x), .int .i64 (Int.ofNat 1)) :: hadE t from rfl]
    by_cases h : a = x
    · have hd : decide (a = x) = true := by simpa using h
      rw [hd] at he
      refine ⟨fun hn => absurd (by rw [h]; exact List.mem_cons_self) hn, fun _ => ⟨i, .agg (rk x), by simp only [findA, he]⟩⟩
    · have hd : decide (a = x) = false := by simpa using h
      rw [hd] at he
      refine ⟨fun hn => ?_, fun hm => ?_⟩
      · simp only [findA, he]
        exact h1 fun hm => hn (List.mem_cons_of_mem _ hm)
      · simp only [findA, he]
        rcases List.mem_cons.1 hm with e | hm
        · exact absurd e h
        · exact h2 hm
theorem uHad : Tryz.prog.underlying 191 = some (.map 74 3) := by kernel_rfl
theorem keyR (a : Int × Nat) : keyA Tryz.prog 4 74 (.agg (rk a)) = true := by
  obtain ⟨z, g⟩ := a
  show keyA Tryz.prog 4 74 (.agg [.int .i64 z, .int .u32 (Int.ofNat g), .bool false]) = true
  kernel_rfl
theorem zI : zeroA Tryz.prog 3 = some (.int .i64 (Int.ofNat 0)) := by kernel_rfl
/-- What had is: the refs of entries, in some order. -/
def HadAt (O : AObj) (L : List Ent) : Prop := ∃ l ix n, O = hadO l ix n ∧ l.Nodup ∧ ∀ a, a ∈ l ↔ a ∈ L.map fun e => (Int.ofNat e.z, e.g)
theorem lk_had0 {s : AS} {b : Nat} {l : List (Int × Nat)} {ix : List Nat} {n : Nat} {a : Int × Nat} (h : a ∉ l) (hs : s.get b = some (hadO l ix n)) : lookupA Tryz.prog s 191 (.map b) (.agg (rk a)) false = some (.int .i64 (Int.ofNat 0)) := by
  simp only [lookupA, uHad, keyR, if_true, mapOf, hs, hadO, (find_had s a l 0).1 h, zI, Bool.false_eq_true, if_false]
theorem lk_nil {s : AS} {a : Int × Nat} : lookupA Tryz.prog s 191 .nilMap (.agg (rk a)) false = some (.int .i64 (Int.ofNat 0)) := by
  simp only [lookupA, uHad, keyR, if_true, zI, Bool.false_eq_true, if_false]
theorem upd_had {s : AS} {b : Nat} {l : List (Int × Nat)} {ix : List Nat} {n : Nat} {a : Int × Nat} (h : a ∉ l) (hs : s.get b = some (hadO l ix n)) : updateA Tryz.prog s 191 (.map b) (.agg (rk a)) (.int .i64 (Int.ofNat 1)) = some (s.set b (hadO (l ++ [a]) (ix ++ [n]) (n + 1))) := by
  simp only [updateA, uHad, keyR, if_true, mapAt, hs, hadO, (find_had s a l 0).1 h]
  rw [show hadE (l ++ [a]) = hadE l ++ [(.agg (rk a), .int .i64 (Int.ofNat 1))] by unfold hadE; rw [List.map_append]; rfl]
  rfl
theorem del_had {s : AS} {b : Nat} {l : List (Int × Nat)} {ix : List Nat} {n : Nat} {a : Int × Nat} (h : a ∈ l) (hs : s.get b = some (hadO l ix n)) : ∃ j, l[j]? = some a ∧ deleteA Tryz.prog s 191 (.map b) (.agg (rk a)) = some (s.set b (hadO (l.eraseIdx j) (ix.eraseIdx j) n)) := by
  obtain ⟨j, k, v, h1, h2⟩ := find_hadj s a l 0 h
  refine ⟨j, h2, ?_⟩
  rw [Nat.zero_add] at h1
  have er : ∀ (l : List (Int × Nat)) (j : Nat), eraseAt (hadE l) j = hadE (l.eraseIdx j) := by
    intro l
    induction l with
    | nil => intro j; cases j <;> rfl
    | cons x t ih =>
      intro j
      cases j with
      | zero => rfl
      | succ j => show _ :: eraseAt (hadE t) j = _; rw [ih j]; rfl
  simp only [deleteA, uHad, keyR, if_true, mapAt, hs, hadO, h1, er]
theorem hadE_names (p : Nat → Bool) : ∀ l, namesE p (hadE l) = true
  | [] => rfl
  | x :: t => by show (true && true && namesE p (hadE t)) = true; rw [hadE_names p t]; rfl
theorem hadO_names (p : Nat → Bool) (l : List (Int × Nat)) (ix : List Nat) (n : Nat) : (hadO l ix n).names p = true := hadE_names p l
theorem HadAt.names {O : AObj} {L : List Ent} (h : HadAt O L) : O.rw = true ∧ O.names (fun _ => false) = true := by
  obtain ⟨l, ix, n, rfl, _, _⟩ := h
  exact ⟨rfl, hadO_names _ _ _ _⟩
end Go.Proofs.YtofbdgmknfbkfaaGreatDoor.nodesLife
