/- The parts of the law, wherever their rows lie. Conditions: those that each theorem names, and no others. -/
import Derived.Test.YtipadnlhcnmgaaaDoorLook8
namespace Go.Proofs.YtipadnlhcnmgaaaDoor.boundsLook
open Go Go.Mini
theorem on_canN {N : Nat} (hN : 2 ≤ N) {f : FuncId} {args args' : List AV} {v : AV} {e : AExit} {s1 : AS} {l : List (Nat × List AV)} (h : Sound Tryd.prog (.call f args ⟨⟨l.map (fun x => (x.1, .cells true x.2)), l.length, none, []⟩, N⟩) ⟨e, [v], s1⟩) (π : Nat → Nat) (hl : ∀ x ∈ l, x.1 < N ∧ namess (fun _ => false) x.2 = true)
    (h0 : π 0 = 0) (h1 : π 1 = 1) (ha : namess (fun c => Nat.blt c N) args = true) (hv : v.names (fun _ => false) = true) (hargs : args' = rens π args) (s : AS) (hs : ∀ x ∈ l, ∃ ro, s.get (π x.1) = some (.cells ro x.2)) :
    Sound Tryd.prog (.call f args' s) ⟨.ret, [v], s⟩ := by
  have := Sound.frame h π s (fun g hg => ?_) (fun k hk => ?_) (fun b o hb => ?_) ha (names_sub (fun _ h => by cases h) hv) .ret
  · rw [hargs]
    have hr : v.ren π = v := by rw [ren_congr (p := fun _ => false) (π' := fun b => b) (fun _ h => by cases h) hv, ren_id]
    rwa [hr] at this
  · have h2 : g < 2 := Nat.lt_of_lt_of_le hg (Nat.le_of_ble_eq_true (by kernel_rfl))
    refine ⟨show g < N by omega, ?_⟩
    have : g = 0 ∨ g = 1 := by omega
    rcases this with rfl | rfl
    · exact h0
    · exact h1
  · simp only [List.map_map, List.mem_map] at hk
    obtain ⟨x, hx, rfl⟩ := hk
    exact (hl x hx).1
  · obtain ⟨x, hx, rfl, rfl⟩ := getB_map hb
    obtain ⟨ro, hr⟩ := hs x hx
    have hn := (hl x hx).2
    exact ⟨x.2, ro, rfl, namess_sub (fun _ h => by cases h) hn, by rw [rens_no hn]; exact hr⟩
/-- A row, in whatever block. -/
structure Fam (t elem : TypeId) (F : Nat → AV) (cs : List AV) (n : Nat) (f : Nat → AV) : Prop where
  ren : ∀ (π : Nat → Nat) b, (F b).ren π = F (π b)
  nm : ∀ b N, b < N → (F b).names (fun c => Nat.blt c N) = true
  row : ∀ b, RowX t elem b cs (F b) n f
  cl : namess (fun _ => false) cs = true
section
variable (H E T : Nat → AV) (ch ce ct : List AV) (nh ne nt : Nat) (wd : Nat → Nat) (en : Nat → En) (th : Nat → Th)
  (fh : Fam 27 24 H ch nh (fun k => .int .u64 (Int.ofNat (wd k)))) (hw : ∀ k, k < nh → wd k < 18446744073709551616)
  (fe : Fam 28 97 E ce ne (fun k => .agg (enC (en k)))) (ft : Fam 29 101 T ct nt (fun k => .agg (thC (th k)))) (tr : TRow (T 3) nt ct th)
def U (wd : Nat → Nat) (nh : Nat) : Nat := cntR (fun k => decide (hs (wd k) = 2)) 0 nh
def IB (A K : Int) (en : Nat → En) (th : Nat → Th) (ne nt : Nat) : Nat := tmF (cl A) (cl K) + cnt2 en th ne 0 nt
include fh hw in
theorem u14 (b : Nat) (s : AS) (ro r0 : Bool) (hs : s.get b = some (.cells ro ch)) (h0 : s.get 0 = some (.cells r0 wf)) : Sound Tryd.prog (.call 14 [H b] s) ⟨.ret, [.int .i64 (Int.ofNat (U wd nh))], s⟩ := by
  obtain ⟨_, _, h⟩ := uf_call (H 2) ch nh wd (fh.row 2) hw
  refine on_can h (fun x => if x = 2 then b else x) (fun x hx => ?_) rfl rfl ?_ rfl ?_ s (fun x hx => ?_)
  · rcases List.mem_cons.1 hx with rfl | hx
    · exact ⟨(by decide : 2 < 5), fh.cl⟩
    · rw [List.mem_singleton.1 hx]
      exact ⟨(by decide : 0 < 5), by kernel_rfl⟩
  · show ((H 2).names _ && true) = true
    rw [fh.nm 2 5 (by decide)]
    rfl
  · show _ = [(H 2).ren _]
    rw [fh.ren]
    rfl
  · rcases List.mem_cons.1 hx with rfl | hx
    · exact ⟨ro, hs⟩
    · rw [List.mem_singleton.1 hx]
      exact ⟨r0, h0⟩
include fh hw in
theorem u15 (b : Nat) (s : AS) (ro r0 : Bool) (hs : s.get b = some (.cells ro ch)) (h0 : s.get 0 = some (.cells r0 wf)) : Sound Tryd.prog (.call 15 [H b] s) ⟨.ret, [.int .i64 (Int.ofNat (U wd nh))], s⟩ := by
  obtain ⟨_, _, h⟩ := rf_call (H 2) ch nh wd (fh.row 2) hw
  refine on_can h (fun x => if x = 2 then b else x) (fun x hx => ?_) rfl rfl ?_ rfl ?_ s (fun x hx => ?_)
  · rcases List.mem_cons.1 hx with rfl | hx
    · exact ⟨(by decide : 2 < 5), fh.cl⟩
    · rw [List.mem_singleton.1 hx]
      exact ⟨(by decide : 0 < 5), by kernel_rfl⟩
  · show ((H 2).names _ && true) = true
    rw [fh.nm 2 5 (by decide)]
    rfl
  · show _ = [(H 2).ren _]
    rw [fh.ren]
    rfl
  · rcases List.mem_cons.1 hx with rfl | hx
    · exact ⟨ro, hs⟩
    · rw [List.mem_singleton.1 hx]
      exact ⟨r0, h0⟩
def pe (be bt : Nat) (x : Nat) : Nat := if x = 2 then be else if x = 3 then bt else x
include fe ft tr in
theorem u12 (A K : Int) (ep : Int) (be bt : Nat) (s : AS) (r1 r2 : Bool) (h1 : s.get be = some (.cells r1 ce)) (h2 : s.get bt = some (.cells r2 ct)) :
    Sound Tryd.prog (.call 12 [.int .i64 A, .int .i64 K, E be, .agg [T bt, .int .u64 ep]] s) ⟨.ret, [.int .i64 (Int.ofNat (IB A K en th ne nt))], s⟩ := by
  obtain ⟨_, _, h⟩ := ib_call A K (E 2) (T 3) (.int .u64 ep) ce ct nt ne en th (fe.row 2) tr (fe.nm 2 5 (by decide)) (ft.nm 3 5 (by decide)) rfl fe.cl ft.cl
  refine on_can h (pe be bt) (fun x hx => ?_) rfl rfl ?_ rfl ?_ s (fun x hx => ?_)
  · rcases List.mem_cons.1 hx with rfl | hx
    · exact ⟨(by decide : 3 < 5), ft.cl⟩
    · rw [List.mem_singleton.1 hx]
      exact ⟨(by decide : 2 < 5), fe.cl⟩
  · show (true && (true && ((E 2).names _ && (((T 3).names _ && (true && true)) && true)))) = true
    rw [fe.nm 2 5 (by decide), ft.nm 3 5 (by decide)]
    rfl
  · show _ = [.int .i64 A, .int .i64 K, (E 2).ren _, .agg [(T 3).ren _, .int .u64 ep]]
    rw [fe.ren, ft.ren]
    rfl
  · rcases List.mem_cons.1 hx with rfl | hx
    · exact ⟨r2, h2⟩
    · rw [List.mem_singleton.1 hx]
      exact ⟨r1, h1⟩
include fe ft in
theorem u13 (A K : Int) (ep : Int) (be bt : Nat) (s : AS) (r1 r2 : Bool) (h1 : s.get be = some (.cells r1 ce)) (h2 : s.get bt = some (.cells r2 ct)) :
    Sound Tryd.prog (.call 13 [.int .i64 A, .int .i64 K, E be, .agg [T bt, .int .u64 ep]] s) ⟨.ret, [.int .i64 (Int.ofNat (IB A K en th ne nt))], s⟩ := by
  obtain ⟨_, _, h⟩ := rb_call A K (E 2) (T 3) (.int .u64 ep) ce ct nt ne en th (fe.row 2) (ft.row 3) (fe.nm 2 5 (by decide)) (ft.nm 3 5 (by decide)) rfl fe.cl ft.cl
  refine on_can h (pe be bt) (fun x hx => ?_) rfl rfl ?_ rfl ?_ s (fun x hx => ?_)
  · rcases List.mem_cons.1 hx with rfl | hx
    · exact ⟨(by decide : 3 < 5), ft.cl⟩
    · rw [List.mem_singleton.1 hx]
      exact ⟨(by decide : 2 < 5), fe.cl⟩
  · show (true && (true && ((E 2).names _ && (((T 3).names _ && (true && true)) && true)))) = true
    rw [fe.nm 2 5 (by decide), ft.nm 3 5 (by decide)]
    rfl
  · show _ = [.int .i64 A, .int .i64 K, (E 2).ren _, .agg [(T 3).ren _, .int .u64 ep]]
    rw [fe.ren, ft.ren]
    rfl
  · rcases List.mem_cons.1 hx with rfl | hx
    · exact ⟨r2, h2⟩
    · rw [List.mem_singleton.1 hx]
      exact ⟨r1, h1⟩
def pf (bh be bt : Nat) (x : Nat) : Nat := if x = 2 then be else if x = 3 then bt else if x = 4 then bh else x
/-- Does it fit? -/
def FB (l : Lk) (wd : Nat → Nat) (en : Nat → En) (th : Nat → Th) (nh ne nt : Nat) : Bool := fitB l (U wd nh) (tmF (cl l.A) (cl l.H) + 3 * cl l.A) (IB l.A l.H en th ne nt)
include fh hw fe ft tr in
theorem u16 (l : Lk) (bh be bt : Nat) (s : AS) (r0 r1 r2 r3 : Bool) (h1 : s.get be = some (.cells r1 ce)) (h2 : s.get bt = some (.cells r2 ct)) (h3 : s.get bh = some (.cells r3 ch)) (h0 : s.get 0 = some (.cells r0 wf)) :
    Sound Tryd.prog (.call 16 [.agg (lkC l (H bh) (E be) (T bt))] s) ⟨.ret, [.bool (FB l wd en th nh ne nt)], s⟩ := by
  obtain ⟨_, _, h⟩ := ft_call l (H 4) (E 2) (T 3) ce ct ch (U wd nh) (IB l.A l.H en th ne nt) (fun s g4 g0 => u14 H ch nh wd fh hw 4 s true true g4 g0) (fun s g3 g2 => u12 E T ce ct ne nt en th fe ft tr l.A l.H l.ep 2 3 s true true g2 g3)
  refine on_can h (pf bh be bt) (fun x hx => ?_) rfl rfl ?_ rfl ?_ s (fun x hx => ?_)
  · rcases List.mem_cons.1 hx with rfl | hx
    · exact ⟨(by decide : 4 < 5), fh.cl⟩
    rcases List.mem_cons.1 hx with rfl | hx
    · exact ⟨(by decide : 3 < 5), ft.cl⟩
    rcases List.mem_cons.1 hx with rfl | hx
    · exact ⟨(by decide : 2 < 5), fe.cl⟩
    · rw [List.mem_singleton.1 hx]
      exact ⟨(by decide : 0 < 5), by kernel_rfl⟩
  · have a1 := fh.nm 4 5 (by decide)
    have a2 := fe.nm 2 5 (by decide)
    have a3 := ft.nm 3 5 (by decide)
    simp only [namess, AV.names, lkC, a1, a2, a3, Bool.and_self]
  · simp only [rens, AV.ren, lkC, fh.ren, fe.ren, ft.ren]
    rfl
  · rcases List.mem_cons.1 hx with rfl | hx
    · exact ⟨r3, h3⟩
    rcases List.mem_cons.1 hx with rfl | hx
    · exact ⟨r2, h2⟩
    rcases List.mem_cons.1 hx with rfl | hx
    · exact ⟨r1, h1⟩
    · rw [List.mem_singleton.1 hx]
      exact ⟨r0, h0⟩
include fh hw fe ft in
theorem u17 (l : Lk) (bh be bt : Nat) (s : AS) (r0 r1 r2 r3 : Bool) (h1 : s.get be = some (.cells r1 ce)) (h2 : s.get bt = some (.cells r2 ct)) (h3 : s.get bh = some (.cells r3 ch)) (h0 : s.get 0 = some (.cells r0 wf)) :
    Sound Tryd.prog (.call 17 [.agg [.int .u8 l.p0, .int .u8 l.p1, .int .u8 l.p2, .int .u64 l.pn], .agg [.int .i64 l.A, .int .i64 l.H], H bh, E be, .agg [T bt, .int .u64 l.ep]] s) ⟨.ret, [.bool (FB l wd en th nh ne nt)], s⟩ := by
  obtain ⟨_, _, h⟩ := gt_call l (H 4) (E 2) (T 3) ce ct ch (U wd nh) (IB l.A l.H en th ne nt) (fun s g4 g0 => u15 H ch nh wd fh hw 4 s true true g4 g0) (fun s g3 g2 => u13 E T ce ct ne nt en th fe ft l.A l.H l.ep 2 3 s true true g2 g3)
  refine on_can h (pf bh be bt) (fun x hx => ?_) rfl rfl ?_ rfl ?_ s (fun x hx => ?_)
  · rcases List.mem_cons.1 hx with rfl | hx
    · exact ⟨(by decide : 4 < 5), fh.cl⟩
    rcases List.mem_cons.1 hx with rfl | hx
    · exact ⟨(by decide : 3 < 5), ft.cl⟩
    rcases List.mem_cons.1 hx with rfl | hx
    · exact ⟨(by decide : 2 < 5), fe.cl⟩
    · rw [List.mem_singleton.1 hx]
      exact ⟨(by decide : 0 < 5), by kernel_rfl⟩
  · have a1 := fh.nm 4 5 (by decide)
    have a2 := fe.nm 2 5 (by decide)
    have a3 := ft.nm 3 5 (by decide)
    simp only [namess, AV.names, a1, a2, a3, Bool.and_self]
  · simp only [rens, AV.ren, fh.ren, fe.ren, ft.ren]
    rfl
  · rcases List.mem_cons.1 hx with rfl | hx
    · exact ⟨r3, h3⟩
    rcases List.mem_cons.1 hx with rfl | hx
    · exact ⟨r2, h2⟩
    rcases List.mem_cons.1 hx with rfl | hx
    · exact ⟨r1, h1⟩
    · rw [List.mem_singleton.1 hx]
      exact ⟨r0, h0⟩
end
section
variable (H E T H' E' T' : Nat → AV) (ch ce ct ch' ce' ct' : List AV) (nh ne nt : Nat) (wd : Nat → Nat) (en : Nat → En) (th : Nat → Th)
  (fh : Fam 27 24 H ch nh (fun k => .int .u64 (Int.ofNat (wd k)))) (fe : Fam 28 97 E ce ne (fun k => .agg (enC (en k)))) (ft : Fam 29 101 T ct nt (fun k => .agg (thC (th k))))
  (fh' : Fam 27 24 H' ch' nh (fun k => .int .u64 (Int.ofNat (wd k)))) (fe' : Fam 28 97 E' ce' ne (fun k => .agg (enC (en k)))) (ft' : Fam 29 101 T' ct' nt (fun k => .agg (thC (th k))))
def pg (bh be bt bh' be' bt' : Nat) (x : Nat) : Nat := if x = 2 then be else if x = 3 then bt else if x = 4 then bh else if x = 5 then be' else if x = 6 then bt' else if x = 7 then bh' else x
include fh fe ft fh' fe' ft' in
theorem u18 (l : Lk) (bh be bt bh' be' bt' : Nat) (s : AS) (r1 r2 r3 r4 r5 r6 : Bool) (h1 : s.get be = some (.cells r1 ce)) (h2 : s.get bt = some (.cells r2 ct)) (h3 : s.get bh = some (.cells r3 ch)) (h4 : s.get be' = some (.cells r4 ce')) (h5 : s.get bt' = some (.cells r5 ct')) (h6 : s.get bh' = some (.cells r6 ch')) :
    Sound Tryd.prog (.call 18 [.agg (lkC l (H' bh') (E' be') (T' bt')), .agg (lkC l (H bh) (E be) (T bt))] s) ⟨.ret, [.bool true], s⟩ := by
  obtain ⟨_, _, h⟩ := sm_call l (H' 7) (E' 5) (T' 6) (H 4) (E 2) (T 3) ce ct ch ce' ct' ch' nh ne nt wd en th (fh'.row 7) (fh.row 4) (fe'.row 5) (fe.row 2) (ft'.row 6) (ft.row 3)
  refine on_canN (N := 8) (by decide) (l := [(7, ch'), (6, ct'), (5, ce'), (4, ch), (3, ct), (2, ce)]) h (pg bh be bt bh' be' bt') (fun x hx => ?_) rfl rfl ?_ rfl ?_ s (fun x hx => ?_)
  · rcases List.mem_cons.1 hx with rfl | hx
    · exact ⟨(by decide : 7 < 8), fh'.cl⟩
    rcases List.mem_cons.1 hx with rfl | hx
    · exact ⟨(by decide : 6 < 8), ft'.cl⟩
    rcases List.mem_cons.1 hx with rfl | hx
    · exact ⟨(by decide : 5 < 8), fe'.cl⟩
    rcases List.mem_cons.1 hx with rfl | hx
    · exact ⟨(by decide : 4 < 8), fh.cl⟩
    rcases List.mem_cons.1 hx with rfl | hx
    · exact ⟨(by decide : 3 < 8), ft.cl⟩
    · rw [List.mem_singleton.1 hx]
      exact ⟨(by decide : 2 < 8), fe.cl⟩
  · have a1 := fh.nm 4 8 (by decide)
    have a2 := fe.nm 2 8 (by decide)
    have a3 := ft.nm 3 8 (by decide)
    have a4 := fh'.nm 7 8 (by decide)
    have a5 := fe'.nm 5 8 (by decide)
    have a6 := ft'.nm 6 8 (by decide)
    simp only [namess, AV.names, lkC, a1, a2, a3, a4, a5, a6, Bool.and_self]
  · simp only [rens, AV.ren, lkC, fh.ren, fe.ren, ft.ren, fh'.ren, fe'.ren, ft'.ren]
    rfl
  · rcases List.mem_cons.1 hx with rfl | hx
    · exact ⟨r6, h6⟩
    rcases List.mem_cons.1 hx with rfl | hx
    · exact ⟨r5, h5⟩
    rcases List.mem_cons.1 hx with rfl | hx
    · exact ⟨r4, h4⟩
    rcases List.mem_cons.1 hx with rfl | hx
    · exact ⟨r3, h3⟩
    rcases List.mem_cons.1 hx with rfl | hx
    · exact ⟨r2, h2⟩
    · rw [List.mem_singleton.1 hx]
      exact ⟨r1, h1⟩
end
end Go.Proofs.YtipadnlhcnmgaaaDoor.boundsLook
