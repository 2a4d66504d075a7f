/- An Alloc, step by step, wherever it lies. Conditions: those that each theorem names, and no others. -/
import Derived.Test.YtimnagafechmbaaGreatDoorArena5
namespace Go.Proofs.YtimnagafechmbaaGreatDoor.ghostsArena
open Go Go.Mini
/-! ### Alloc's steps, wherever they lie -/
def p5 (b bm xa xd xk x : Nat) : Nat := if x = 4 then b else if x = 5 then bm else if x = 6 then xa else if x = 7 then xd else if x = 8 then xk else x
def Acl (d : AV) (line era : Nat) (slot : Int) (gen : Nat) (ok : Bool) : List AV := [d, .int .i64 (Int.ofNat line), .int .u64 (Int.ofNat era), .int .i64 slot, .int .u32 (Int.ofNat gen), .bool false, .bool ok]
def Pcl (line head : Nat) (next slot : Int) (ok : Bool) : List AV := [.int .i64 (Int.ofNat line), .int .u64 (Int.ofNat head), .int .i64 next, .int .i64 slot, .bool ok]
def Hcl (slot : Int) (to : AV) (gen : Nat) (read : Bool) (now : Nat) : List AV := [.int .i64 slot, to, .int .u32 (Int.ofNat gen), .bool read, .int .u8 (Int.ofNat now)]
def popI (b : Nat) : AV := .iface 115 (.ptr b 0)
def hdrI (b : Nat) : AV := .iface 125 (.ptr b 0)
def keepF (b : Nat) : AV := .func (.func 105) [] [.ptr b 0]
theorem glob5 {b bm xa xd xk n : Nat} (hn : 2 ≤ n) : ∀ g, g < Tryz.prog.globals.size → g < n ∧ p5 b bm xa xd xk g = g := fun g hg => by
  rw [glN] at hg
  refine ⟨by omega, ?_⟩
  unfold p5
  rw [if_neg (by omega), if_neg (by omega), if_neg (by omega), if_neg (by omega), if_neg (by omega)]
theorem inj4 {b bm xa xd xk : Nat} (h : [b, bm, xa, xd].Nodup) : ∀ x ∈ [4, 5, 6, 7], ∀ y ∈ [4, 5, 6, 7], p5 b bm xa xd xk x = p5 b bm xa xd xk y → x = y := by
  simp only [List.nodup_cons, List.mem_cons, List.not_mem_nil, or_false, not_or, List.nodup_nil, and_true, not_false_eq_true] at h
  obtain ⟨⟨h1, h2, h3⟩, ⟨h4, h5⟩, h6⟩ := h
  intro x hx y hy he
  simp only [List.mem_cons, List.not_mem_nil, or_false] at hx hy
  rcases hx with rfl | rfl | rfl | rfl <;> rcases hy with rfl | rfl | rfl | rfl <;> simp [p5] at he ⊢ <;> first | exact absurd he h1 | exact absurd he h2 | exact absurd he h3 | exact absurd he h4 | exact absurd he h5 | exact absurd he h6 | exact absurd he.symm h1 | exact absurd he.symm h2 | exact absurd he.symm h3 | exact absurd he.symm h4 | exact absurd he.symm h5 | exact absurd he.symm h6
theorem frz0 {s : AS} {π : Nat → Nat} {l : List Nat} {n : Nat} (hn : 0 < n) (h0 : ∃ ro, s.get 0 = some (.cells ro wf)) (e0 : π 0 = 0) (hl : 0 ∉ l) (hz : ∀ b ∈ l, π b ≠ 0) :
    ∀ x ∈ [((0, wf) : Nat × List AV)], x.1 < n ∧ x.1 ∉ l ∧ namess (fun _ => false) x.2 = true ∧ (∃ ro, s.get (π x.1) = some (.cells ro x.2)) ∧ ∀ b ∈ l, π b ≠ π x.1 := by
  intro x hx
  simp only [List.mem_cons, List.not_mem_nil, or_false] at hx
  subst hx
  exact ⟨hn, hl, rfl, by rw [e0]; exact h0, by rw [e0]; exact hz⟩
/-- Where an operation of an Alloc lies. -/
structure AIn (s : AS) (b bm xa xd : Nat) (M : PM) (A D : List AV) : Prop where
  hb : s.get b = some (.cells false (M.C (.map bm)))
  hm : s.get bm = some (mapO M.ms)
  ha : s.get xa = some (.cells false A)
  hd : s.get xd = some (.cells false D)
  h0 : ∃ ro, s.get 0 = some (.cells ro wf)
  nd : [b, bm, xa, xd].Nodup
  nz : 0 ∉ [b, bm, xa, xd]
  lt : ∀ a, getW M.ms a < 18446744073709551616
def aF : A3 := (0, 0, 0)
theorem nz4 {b bm xa xd xk : Nat} (h : 0 ∉ [b, bm, xa, xd]) : ∀ x ∈ [4, 5, 6, 7], p5 b bm xa xd xk x ≠ 0 := by
  simp only [List.mem_cons, List.not_mem_nil, or_false, not_or] at h
  obtain ⟨h1, h2, h3, h4⟩ := h
  intro x hx
  simp only [List.mem_cons, List.not_mem_nil, or_false] at hx
  rcases hx with rfl | rfl | rfl | rfl <;> simp [p5] <;> omega

theorem as1_at {s : AS} {b bm xa xd : Nat} {M : PM} (hz : 0 ≤ slI (getW M.ms aF)) (h : AIn s b bm xa xd M (Acl (popI xd) 1 0 (Int.negSucc 0) 0 false) (Pcl 1 0 (Int.ofNat 0) (Int.ofNat 0) false)) :
    Sound Tryz.prog (.call 22 [.ptr xa 0, .ptr b 0] s) ⟨.ret, [.bool false], (((s.set b (.cells false ((M.load aF).C (.map bm)))).set bm (mapO (M.load aF).ms)).set xa (.cells false (Acl (popI xd) 1 0 (Int.negSucc 0) 0 false))).set xd (.cells false (Pcl 2 (getW M.ms aF) (Int.ofNat 0) (Int.ofNat 0) false))⟩ := by
  have hr := runX_sound mixed none_sound (as_1 (getW M.ms aF) 0 0 0 0 0 (tgN (getW M.ms aF)) 0 0 0 0 0 0 (slI (getW M.ms aF)) 0 0 M (M.load aF) (mapO M.ms) (mapO M.ms)) ⟨pload_at (b := 4) (bm := 5) (m := M) rfl rfl aF, fun s hs => ashead_call _ (h.lt aF) s hs, by simp [Qst.ok]; exact hz, trivial⟩
  have hp := Sound.putFG (P := Tryz.prog) (f := 22) (Fz := [(0, wf)]) hr (p5 b bm xa xd 0) (glob5 (by omega)) [] s (frz0 (by omega) h.h0 rfl (show 0 ∉ [4, 5, 6, 7] by decide) (nz4 h.nz))
    ⟨⟨show 4 < 8 by decide, rfl, rfl, rfl, h.hb, .inl rfl, rfl⟩, ⟨show 5 < 8 by decide, rfl, mapO_names _ _, rfl, by rw [mapO_ren]; exact h.hm, .inl rfl, mapO_names _ _⟩, ⟨show 6 < 8 by decide, rfl, rfl, rfl, h.ha, .inl rfl, rfl⟩, ⟨show 7 < 8 by decide, rfl, rfl, rfl, h.hd, .inl rfl, rfl⟩, trivial⟩
    (inj4 h.nd) (show [4, 5, 6, 7].Nodup by decide) List.nodup_nil (fun _ h => by cases h) rfl rfl
  change Sound Tryz.prog _ ⟨_, _, (((s.set b (.cells false ((M.load aF).C (.map bm)))).set bm ((mapO (M.load aF).ms).ren _)).set xa (.cells false (Acl (popI xd) 1 0 (Int.negSucc 0) 0 false))).set xd (.cells false (Pcl 2 (getW M.ms aF) (Int.ofNat 0) (Int.ofNat 0) false))⟩ at hp
  rw [mapO_ren] at hp
  exact hp

theorem as1n_at {s : AS} {b bm xa xd : Nat} {M : PM} (hz : slI (getW M.ms aF) < 0) (h : AIn s b bm xa xd M (Acl (popI xd) 1 0 (Int.negSucc 0) 0 false) (Pcl 1 0 (Int.ofNat 0) (Int.ofNat 0) false)) :
    Sound Tryz.prog (.call 22 [.ptr xa 0, .ptr b 0] s) ⟨.ret, [.bool true], (((s.set b (.cells false ((M.load aF).C (.map bm)))).set bm (mapO (M.load aF).ms)).set xa (.cells false (Acl (popI xd) 0 0 (Int.negSucc 0) 0 false))).set xd (.cells false (Pcl 0 (getW M.ms aF) (Int.ofNat 0) (Int.ofNat 0) false))⟩ := by
  have hr := runX_sound mixed none_sound (as_1n (getW M.ms aF) 0 0 0 0 0 (tgN (getW M.ms aF)) 0 0 0 0 0 0 (slI (getW M.ms aF)) 0 0 M (M.load aF) (mapO M.ms) (mapO M.ms)) ⟨pload_at (b := 4) (bm := 5) (m := M) rfl rfl aF, fun s hs => ashead_call _ (h.lt aF) s hs, by simp [Qst.ok]; exact hz, trivial⟩
  have hp := Sound.putFG (P := Tryz.prog) (f := 22) (Fz := [(0, wf)]) hr (p5 b bm xa xd 0) (glob5 (by omega)) [] s (frz0 (by omega) h.h0 rfl (show 0 ∉ [4, 5, 6, 7] by decide) (nz4 h.nz))
    ⟨⟨show 4 < 8 by decide, rfl, rfl, rfl, h.hb, .inl rfl, rfl⟩, ⟨show 5 < 8 by decide, rfl, mapO_names _ _, rfl, by rw [mapO_ren]; exact h.hm, .inl rfl, mapO_names _ _⟩, ⟨show 6 < 8 by decide, rfl, rfl, rfl, h.ha, .inl rfl, rfl⟩, ⟨show 7 < 8 by decide, rfl, rfl, rfl, h.hd, .inl rfl, rfl⟩, trivial⟩
    (inj4 h.nd) (show [4, 5, 6, 7].Nodup by decide) List.nodup_nil (fun _ h => by cases h) rfl rfl
  change Sound Tryz.prog _ ⟨_, _, (((s.set b (.cells false ((M.load aF).C (.map bm)))).set bm ((mapO (M.load aF).ms).ren _)).set xa (.cells false (Acl (popI xd) 0 0 (Int.negSucc 0) 0 false))).set xd (.cells false (Pcl 0 (getW M.ms aF) (Int.ofNat 0) (Int.ofNat 0) false))⟩ at hp
  rw [mapO_ren] at hp
  exact hp

def aL (z : Int) (f : Int) : A3 := (9, z, f)
theorem as2_at {s : AS} {b bm xa xd : Nat} {M : PM} {w0 : Nat} (hw : w0 < 18446744073709551616) (h : AIn s b bm xa xd M (Acl (popI xd) 1 0 (Int.negSucc 0) 0 false) (Pcl 2 w0 (Int.ofNat 0) (Int.ofNat 0) false)) :
    Sound Tryz.prog (.call 22 [.ptr xa 0, .ptr b 0] s) ⟨.ret, [.bool false], (((s.set b (.cells false ((M.load (aL (slI w0) 2)).C (.map bm)))).set bm (mapO (M.load (aL (slI w0) 2)).ms)).set xa (.cells false (Acl (popI xd) 1 0 (Int.negSucc 0) 0 false))).set xd (.cells false (Pcl 3 w0 (slI (getW M.ms (aL (slI w0) 2))) (Int.ofNat 0) false))⟩ := by
  have hr := runX_sound mixed none_sound (as_2 w0 (getW M.ms (aL (slI w0) 2)) 0 0 0 0 (tgN w0) (tgN (getW M.ms (aL (slI w0) 2))) 0 0 0 0 0 (slI w0) (slI (getW M.ms (aL (slI w0) 2))) 0 M (M.load (aL (slI w0) 2)) (mapO M.ms) (mapO M.ms)) ⟨fun s hs => ashead_call _ hw s hs, pload_at (b := 4) (bm := 5) (m := M) rfl rfl (aL (slI w0) 2), fun s hs => ashead_call _ (h.lt _) s hs, trivial⟩
  have hp := Sound.putFG (P := Tryz.prog) (f := 22) (Fz := [(0, wf)]) hr (p5 b bm xa xd 0) (glob5 (by omega)) [] s (frz0 (by omega) h.h0 rfl (show 0 ∉ [4, 5, 6, 7] by decide) (nz4 h.nz))
    ⟨⟨show 4 < 8 by decide, rfl, rfl, rfl, h.hb, .inl rfl, rfl⟩, ⟨show 5 < 8 by decide, rfl, mapO_names _ _, rfl, by rw [mapO_ren]; exact h.hm, .inl rfl, mapO_names _ _⟩, ⟨show 6 < 8 by decide, rfl, rfl, rfl, h.ha, .inl rfl, rfl⟩, ⟨show 7 < 8 by decide, rfl, rfl, rfl, h.hd, .inl rfl, rfl⟩, trivial⟩
    (inj4 h.nd) (show [4, 5, 6, 7].Nodup by decide) List.nodup_nil (fun _ h => by cases h) rfl rfl
  change Sound Tryz.prog _ ⟨_, _, (((s.set b (.cells false ((M.load (aL (slI w0) 2)).C (.map bm)))).set bm ((mapO (M.load (aL (slI w0) 2)).ms).ren _)).set xa (.cells false (Acl (popI xd) 1 0 (Int.negSucc 0) 0 false))).set xd (.cells false (Pcl 3 w0 (slI (getW M.ms (aL (slI w0) 2))) (Int.ofNat 0) false))⟩ at hp
  rw [mapO_ren] at hp
  exact hp

theorem tg_lt (w : Nat) : tgN w < 281474976710656 := Nat.mod_lt _ (by omega)
theorem t3q (w : Nat) : some (AV.int .u64 (Int.ofNat ((tgN w + 1) % ((2 : Int) ^ IntKind.u64.bits).natAbs))) = some (AV.int .u64 (Int.ofNat (tgN w + 1))) := by
  rw [nat64, Nat.mod_eq_of_lt (by have := tg_lt w; omega)]
theorem pcas_yes {s : AS} {b bm : Nat} {m : PM} (hb : s.get b = some (.cells false (m.C (.map bm)))) (hm : s.get bm = some (mapO m.ms)) (a : A3) (h0 : 0 ≤ a.1) (w u : Nat) (hk : m.casd a w = true) : Sound Tryz.prog (.call 157 [.ptr b 0, .agg (ak a), .int .u64 (Int.ofNat w), .int .u64 (Int.ofNat u)] s) ⟨.ret, [.bool true], (s.set b (.cells false ((m.cas a w u).C (.map bm)))).set bm (mapO (m.cas a w u).ms)⟩ := by
  have h := pcas_at hb hm a h0 w u
  rw [hk] at h
  exact h
theorem as3_at {s : AS} {b bm xa xd : Nat} {M : PM} {w0 : Nat} {z2 : Int} (hw : w0 < 18446744073709551616) (hz2 : -1 ≤ z2 ∧ z2 < 256) (hc : getW M.ms aF = w0) (h : AIn s b bm xa xd M (Acl (popI xd) 1 0 (Int.negSucc 0) 0 false) (Pcl 3 w0 z2 (Int.ofNat 0) false)) :
    Sound Tryz.prog (.call 22 [.ptr xa 0, .ptr b 0] s) ⟨.ret, [.bool false], (((s.set b (.cells false ((M.cas aF w0 (hdN z2 (tgN w0 + 1))).C (.map bm)))).set bm (mapO (M.cas aF w0 (hdN z2 (tgN w0 + 1))).ms)).set xa (.cells false (Acl (popI xd) 2 0 (slI w0) 0 false))).set xd (.cells false (Pcl 0 w0 z2 (slI w0) true))⟩ := by
  have hr := runX_sound mixed none_sound (as_3 w0 0 (hdN z2 (tgN w0 + 1)) 0 0 0 (tgN w0) 0 (tgN w0 + 1) 0 0 0 0 (slI w0) z2 0 M (M.cas aF w0 (hdN z2 (tgN w0 + 1))) (mapO M.ms) (mapO (M.cas aF w0 (hdN z2 (tgN w0 + 1))).ms)) ⟨fun s hs => ashead_call _ hw s hs, t3q w0, fun s hs => head_call z2 (tgN w0 + 1) (by omega) (by omega) (by have := tg_lt w0; omega) s hs, pcas_yes (b := 4) (bm := 5) (m := M) rfl rfl aF (by decide) w0 (hdN z2 (tgN w0 + 1)) (by simp [PM.casd, hc]; decide), fun s hs => ashead_call _ hw s hs, trivial⟩
  have hp := Sound.putFG (P := Tryz.prog) (f := 22) (Fz := [(0, wf)]) hr (p5 b bm xa xd 0) (glob5 (by omega)) [] s (frz0 (by omega) h.h0 rfl (show 0 ∉ [4, 5, 6, 7] by decide) (nz4 h.nz))
    ⟨⟨show 4 < 8 by decide, rfl, rfl, rfl, h.hb, .inl rfl, rfl⟩, ⟨show 5 < 8 by decide, rfl, mapO_names _ _, rfl, by rw [mapO_ren]; exact h.hm, .inl rfl, mapO_names _ _⟩, ⟨show 6 < 8 by decide, rfl, rfl, rfl, h.ha, .inl rfl, rfl⟩, ⟨show 7 < 8 by decide, rfl, rfl, rfl, h.hd, .inl rfl, rfl⟩, trivial⟩
    (inj4 h.nd) (show [4, 5, 6, 7].Nodup by decide) List.nodup_nil (fun _ h => by cases h) rfl rfl
  change Sound Tryz.prog _ ⟨_, _, (((s.set b (.cells false ((M.cas aF w0 (hdN z2 (tgN w0 + 1))).C (.map bm)))).set bm ((mapO (M.cas aF w0 (hdN z2 (tgN w0 + 1))).ms).ren _)).set xa (.cells false (Acl (popI xd) 2 0 (slI w0) 0 false))).set xd (.cells false (Pcl 0 w0 z2 (slI w0) true))⟩ at hp
  rw [mapO_ren] at hp
  exact hp

def aSg : A3 := (6, 0, 0)
def aEra : A3 := (2, 0, 0)
theorem tdiv8 {z : Int} (hz : 0 ≤ z ∧ z < 8) : some (AV.int .i64 (IntKind.i64.wrap (z.tdiv (Int.ofNat 8)))) = some (AV.int .i64 0) := by
  have : z.tdiv (Int.ofNat 8) = 0 := Int.tdiv_eq_zero_of_lt hz.1 (by simp only [Int.ofNat_eq_natCast]; omega)
  rw [this]
  rfl
theorem as4_at {s : AS} {b bm xa xd : Nat} {M : PM} {w0 : Nat} {z z2 : Int} (hz : 0 ≤ z ∧ z < 8) (hs : getW M.ms aSg ≠ 2) (h : AIn s b bm xa xd M (Acl (popI xd) 2 0 z 0 false) (Pcl 0 w0 z2 z true)) :
    Sound Tryz.prog (.call 22 [.ptr xa 0, .ptr b 0] s) ⟨.ret, [.bool false], (((s.set b (.cells false ((M.load aSg).C (.map bm)))).set bm (mapO (M.load aSg).ms)).set xa (.cells false (Acl (popI xd) 3 0 z 0 false))).set xd (.cells false (Pcl 0 w0 z2 z true))⟩ := by
  have hr := runX_sound mixed none_sound (as_4 w0 (getW M.ms aSg) 0 0 0 0 0 0 0 0 0 0 0 z z2 0 M (M.load aSg) (mapO M.ms) (mapO M.ms)) ⟨tdiv8 hz, pload_at (b := 4) (bm := 5) (m := M) rfl rfl aSg, by simp [Qst.ok]; omega, trivial⟩
  have hp := Sound.putFG (P := Tryz.prog) (f := 22) (Fz := [(0, wf)]) hr (p5 b bm xa xd 0) (glob5 (by omega)) [] s (frz0 (by omega) h.h0 rfl (show 0 ∉ [4, 5, 6, 7] by decide) (nz4 h.nz))
    ⟨⟨show 4 < 8 by decide, rfl, rfl, rfl, h.hb, .inl rfl, rfl⟩, ⟨show 5 < 8 by decide, rfl, mapO_names _ _, rfl, by rw [mapO_ren]; exact h.hm, .inl rfl, mapO_names _ _⟩, ⟨show 6 < 8 by decide, rfl, rfl, rfl, h.ha, .inl rfl, rfl⟩, ⟨show 7 < 8 by decide, rfl, rfl, rfl, h.hd, .inl rfl, rfl⟩, trivial⟩
    (inj4 h.nd) (show [4, 5, 6, 7].Nodup by decide) List.nodup_nil (fun _ h => by cases h) rfl rfl
  change Sound Tryz.prog _ ⟨_, _, (((s.set b (.cells false ((M.load aSg).C (.map bm)))).set bm ((mapO (M.load aSg).ms).ren _)).set xa (.cells false (Acl (popI xd) 3 0 z 0 false))).set xd (.cells false (Pcl 0 w0 z2 z true))⟩ at hp
  rw [mapO_ren] at hp
  exact hp

theorem as5_at {s : AS} {b bm xa xd : Nat} {M : PM} {w0 : Nat} {z z2 : Int} (h : AIn s b bm xa xd M (Acl (popI xd) 3 0 z 0 false) (Pcl 0 w0 z2 z true)) :
    Sound Tryz.prog (.call 22 [.ptr xa 0, .ptr b 0] s) ⟨.ret, [.bool false], (((s.set b (.cells false ((M.load aEra).C (.map bm)))).set bm (mapO (M.load aEra).ms)).set xa (.cells false (Acl (popI xd) 4 (getW M.ms aEra) z 0 false))).set xd (.cells false (Pcl 0 w0 z2 z true))⟩ := by
  have hr := runX_sound mixed none_sound (as_5 w0 0 0 0 0 (getW M.ms aEra) 0 0 0 0 0 0 0 z z2 0 M (M.load aEra) (mapO M.ms) (mapO M.ms)) ⟨pload_at (b := 4) (bm := 5) (m := M) rfl rfl aEra, trivial⟩
  have hp := Sound.putFG (P := Tryz.prog) (f := 22) (Fz := [(0, wf)]) hr (p5 b bm xa xd 0) (glob5 (by omega)) [] s (frz0 (by omega) h.h0 rfl (show 0 ∉ [4, 5, 6, 7] by decide) (nz4 h.nz))
    ⟨⟨show 4 < 8 by decide, rfl, rfl, rfl, h.hb, .inl rfl, rfl⟩, ⟨show 5 < 8 by decide, rfl, mapO_names _ _, rfl, by rw [mapO_ren]; exact h.hm, .inl rfl, mapO_names _ _⟩, ⟨show 6 < 8 by decide, rfl, rfl, rfl, h.ha, .inl rfl, rfl⟩, ⟨show 7 < 8 by decide, rfl, rfl, rfl, h.hd, .inl rfl, rfl⟩, trivial⟩
    (inj4 h.nd) (show [4, 5, 6, 7].Nodup by decide) List.nodup_nil (fun _ h => by cases h) rfl rfl
  change Sound Tryz.prog _ ⟨_, _, (((s.set b (.cells false ((M.load aEra).C (.map bm)))).set bm ((mapO (M.load aEra).ms).ren _)).set xa (.cells false (Acl (popI xd) 4 (getW M.ms aEra) z 0 false))).set xd (.cells false (Pcl 0 w0 z2 z true))⟩ at hp
  rw [mapO_ren] at hp
  exact hp

theorem as6_at {s : AS} {b bm xa xd : Nat} {M : PM} {w0 e : Nat} {z z2 : Int} (h : AIn s b bm xa xd M (Acl (popI xd) 4 e z 0 false) (Pcl 0 w0 z2 z true)) :
    Sound Tryz.prog (.call 22 [.ptr xa 0, .ptr b 0] s) ⟨.ret, [.bool false], (((((s.set b (.cells false ((M.store (aL z 1) e).C (.map bm)))).set bm (mapO (M.store (aL z 1) e).ms)).set xa (.cells false (Acl (hdrI (s.nx + 1)) 1 e z 0 false))).set xd (.cells false (Pcl 0 w0 z2 z true))).push (.cells false [.int .u8 (Int.ofNat 1)])).push (.cells false (Hcl z (keepF s.nx) 0 false 0))⟩ := by
  have hr := runX_sound mixed none_sound (as_6 w0 0 0 0 0 e 0 0 0 0 0 0 0 z z2 0 M (M.store (aL z 1) e) (mapO M.ms) (mapO (M.store (aL z 1) e).ms)) ⟨pstore_at (b := 4) (bm := 5) (m := M) rfl rfl (aL z 1) (show (0 : Int) ≤ 9 by decide) e, trivial⟩
  have hp := Sound.putFG (P := Tryz.prog) (f := 22) (Fz := [(0, wf)]) hr (p5 b bm xa xd 0) (glob5 (by omega)) [9, 10] s (frz0 (by omega) h.h0 rfl (show 0 ∉ [4, 5, 6, 7] by decide) (nz4 h.nz))
    ⟨⟨show 4 < 8 by decide, rfl, rfl, rfl, h.hb, .inl rfl, rfl⟩, ⟨show 5 < 8 by decide, rfl, mapO_names _ _, rfl, by rw [mapO_ren]; exact h.hm, .inl rfl, mapO_names _ _⟩, ⟨show 6 < 8 by decide, rfl, rfl, rfl, h.ha, .inl rfl, rfl⟩, ⟨show 7 < 8 by decide, rfl, rfl, rfl, h.hd, .inl rfl, rfl⟩, trivial⟩
    (inj4 h.nd) (show [4, 5, 6, 7].Nodup by decide) (by decide) (fun b hb => by
      simp only [List.mem_cons, List.not_mem_nil, or_false] at hb
      rcases hb with rfl | rfl <;> exact ⟨by decide, rfl, rfl⟩) rfl rfl
  change Sound Tryz.prog _ ⟨_, _, (((((s.set b (.cells false ((M.store (aL z 1) e).C (.map bm)))).set bm ((mapO (M.store (aL z 1) e).ms).ren _)).set xa (.cells false (Acl (hdrI (s.nx + 1)) 1 e z 0 false))).set xd (.cells false (Pcl 0 w0 z2 z true))).push (.cells false [.int .u8 (Int.ofNat 1)])).push (.cells false (Hcl z (keepF s.nx) 0 false 0))⟩ at hp
  rw [mapO_ren] at hp
  exact hp
theorem inj5 {b bm xa xd xk : Nat} (h : [b, bm, xa, xd, xk].Nodup) : ∀ x ∈ [4, 5, 6, 7, 8], ∀ y ∈ [4, 5, 6, 7, 8], p5 b bm xa xd xk x = p5 b bm xa xd xk y → x = y := by
  simp only [List.nodup_cons, List.mem_cons, List.not_mem_nil, or_false, not_or, List.nodup_nil, and_true, not_false_eq_true] at h
  obtain ⟨⟨h1, h2, h3, h4⟩, ⟨h5, h6, h7⟩, ⟨h8, h9⟩, h10⟩ := h
  intro x hx y hy he
  simp only [List.mem_cons, List.not_mem_nil, or_false] at hx hy
  rcases hx with rfl | rfl | rfl | rfl | rfl <;> rcases hy with rfl | rfl | rfl | rfl | rfl <;> simp [p5] at he ⊢ <;> first | exact absurd he h1 | exact absurd he h2 | exact absurd he h3 | exact absurd he h4 | exact absurd he h5 | exact absurd he h6 | exact absurd he h7 | exact absurd he h8 | exact absurd he h9 | exact absurd he h10 | exact absurd he.symm h1 | exact absurd he.symm h2 | exact absurd he.symm h3 | exact absurd he.symm h4 | exact absurd he.symm h5 | exact absurd he.symm h6 | exact absurd he.symm h7 | exact absurd he.symm h8 | exact absurd he.symm h9 | exact absurd he.symm h10
theorem nz5 {b bm xa xd xk : Nat} (h : 0 ∉ [b, bm, xa, xd, xk]) : ∀ x ∈ [4, 5, 6, 7, 8], p5 b bm xa xd xk x ≠ 0 := by
  simp only [List.mem_cons, List.not_mem_nil, or_false, not_or] at h
  obtain ⟨h1, h2, h3, h4, h5⟩ := h
  intro x hx
  simp only [List.mem_cons, List.not_mem_nil, or_false] at hx
  rcases hx with rfl | rfl | rfl | rfl | rfl <;> simp [p5] <;> omega
structure AIn5 (s : AS) (b bm xa xd xk : Nat) (M : PM) (A D K : List AV) : Prop where
  hb : s.get b = some (.cells false (M.C (.map bm)))
  hm : s.get bm = some (mapO M.ms)
  ha : s.get xa = some (.cells false A)
  hd : s.get xd = some (.cells false D)
  hk : s.get xk = some (.cells false K)
  h0 : ∃ ro, s.get 0 = some (.cells ro wf)
  nd : [b, bm, xa, xd, xk].Nodup
  nz : 0 ∉ [b, bm, xa, xd, xk]
  lt : ∀ a, getW M.ms a < 18446744073709551616
theorem as7_at {s : AS} {b bm xa xd xk : Nat} {M : PM} {e : Nat} {z : Int} (h : AIn5 s b bm xa xd xk M (Acl (hdrI xd) 1 e z 0 false) (Hcl z (keepF xk) 0 false 0) ([.int .u8 (Int.ofNat 1)])) :
    Sound Tryz.prog (.call 22 [.ptr xa 0, .ptr b 0] s) ⟨.ret, [.bool false], ((((s.set b (.cells false ((M.load (aL z 0)).C (.map bm)))).set bm (mapO (M.load (aL z 0)).ms)).set xa (.cells false (Acl (hdrI xd) 1 e z 0 false))).set xd (.cells false (Hcl z (keepF xk) (hg (getW M.ms (aL z 0))) true 0))).set xk (.cells false ([.int .u8 (Int.ofNat 1)]))⟩ := by
  have hr := runX_sound mixed none_sound (as_7 0 0 0 (getW M.ms (aL z 0)) 0 e 0 0 0 (hs (getW M.ms (aL z 0))) (hg (getW M.ms (aL z 0))) 0 0 z 0 0 M (M.load (aL z 0)) (mapO M.ms) (mapO M.ms)) ⟨pload_at (b := 4) (bm := 5) (m := M) rfl rfl (aL z 0), fun s hs => phead _ (h.lt _) s hs, trivial⟩
  have hp := Sound.putFG (P := Tryz.prog) (f := 22) (Fz := [(0, wf)]) hr (p5 b bm xa xd xk) (glob5 (by omega)) [] s (frz0 (by omega) h.h0 rfl (show 0 ∉ [4, 5, 6, 7, 8] by decide) (nz5 h.nz))
    ⟨⟨show 4 < 9 by decide, rfl, rfl, rfl, h.hb, .inl rfl, rfl⟩, ⟨show 5 < 9 by decide, rfl, mapO_names _ _, rfl, by rw [mapO_ren]; exact h.hm, .inl rfl, mapO_names _ _⟩, ⟨show 6 < 9 by decide, rfl, rfl, rfl, h.ha, .inl rfl, rfl⟩, ⟨show 7 < 9 by decide, rfl, rfl, rfl, h.hd, .inl rfl, rfl⟩, ⟨show 8 < 9 by decide, rfl, rfl, rfl, h.hk, .inl rfl, rfl⟩, trivial⟩
    (inj5 h.nd) (show [4, 5, 6, 7, 8].Nodup by decide) List.nodup_nil (fun _ h => by cases h) rfl rfl
  change Sound Tryz.prog _ ⟨_, _, ((((s.set b (.cells false ((M.load (aL z 0)).C (.map bm)))).set bm ((mapO (M.load (aL z 0)).ms).ren _)).set xa (.cells false (Acl (hdrI xd) 1 e z 0 false))).set xd (.cells false (Hcl z (keepF xk) (hg (getW M.ms (aL z 0))) true 0))).set xk (.cells false ([.int .u8 (Int.ofNat 1)]))⟩ at hp
  rw [mapO_ren] at hp
  exact hp

theorem as8_at {s : AS} {b bm xa xd xk : Nat} {M : PM} {e g0 : Nat} {z : Int} (hg0 : g0 < 4294967296) (h : AIn5 s b bm xa xd xk M (Acl (hdrI xd) 1 e z 0 false) (Hcl z (keepF xk) g0 true 0) ([.int .u8 (Int.ofNat 1)])) :
    Sound Tryz.prog (.call 22 [.ptr xa 0, .ptr b 0] s) ⟨.ret, [.bool true], ((((s.set b (.cells false ((M.store (aL z 0) (mkw 1 g0)).C (.map bm)))).set bm (mapO (M.store (aL z 0) (mkw 1 g0)).ms)).set xa (.cells false (Acl (hdrI xd) 0 e z g0 true))).set xd (.cells false (Hcl z (keepF xk) g0 true 1))).set xk (.cells false ([.int .u8 (Int.ofNat 1)]))⟩ := by
  have hr := runX_sound mixed none_sound (as_8 0 0 0 0 (mkw 1 g0) e 0 0 0 0 g0 0 0 z 0 0 M (M.store (aL z 0) (mkw 1 g0)) (mapO M.ms) (mapO (M.store (aL z 0) (mkw 1 g0)).ms)) ⟨fun s hs => header_call 1 g0 (by omega) hg0 s hs, pstore_at (b := 4) (bm := 5) (m := M) rfl rfl (aL z 0) (show (0 : Int) ≤ 9 by decide) (mkw 1 g0), trivial⟩
  have hp := Sound.putFG (P := Tryz.prog) (f := 22) (Fz := [(0, wf)]) hr (p5 b bm xa xd xk) (glob5 (by omega)) [] s (frz0 (by omega) h.h0 rfl (show 0 ∉ [4, 5, 6, 7, 8] by decide) (nz5 h.nz))
    ⟨⟨show 4 < 9 by decide, rfl, rfl, rfl, h.hb, .inl rfl, rfl⟩, ⟨show 5 < 9 by decide, rfl, mapO_names _ _, rfl, by rw [mapO_ren]; exact h.hm, .inl rfl, mapO_names _ _⟩, ⟨show 6 < 9 by decide, rfl, rfl, rfl, h.ha, .inl rfl, rfl⟩, ⟨show 7 < 9 by decide, rfl, rfl, rfl, h.hd, .inl rfl, rfl⟩, ⟨show 8 < 9 by decide, rfl, rfl, rfl, h.hk, .inl rfl, rfl⟩, trivial⟩
    (inj5 h.nd) (show [4, 5, 6, 7, 8].Nodup by decide) List.nodup_nil (fun _ h => by cases h) rfl rfl
  change Sound Tryz.prog _ ⟨_, _, ((((s.set b (.cells false ((M.store (aL z 0) (mkw 1 g0)).C (.map bm)))).set bm ((mapO (M.store (aL z 0) (mkw 1 g0)).ms).ren _)).set xa (.cells false (Acl (hdrI xd) 0 e z g0 true))).set xd (.cells false (Hcl z (keepF xk) g0 true 1))).set xk (.cells false ([.int .u8 (Int.ofNat 1)]))⟩ at hp
  rw [mapO_ren] at hp
  exact hp

end Go.Proofs.YtimnagafechmbaaGreatDoor.ghostsArena
