/- A Free and a Retire, step by step, wherever they lie. Conditions: those that each theorem names, and no others. -/
import Derived.Test.YtimnagafechmbaaGreatDoorArena6
import Derived.Test.YtimnagafechmbaaGreatDoorArena7
namespace Go.Proofs.YtimnagafechmbaaGreatDoor.ghostsArena
open Go Go.Mini
/-! ### Free's steps, Retire's, wherever they lie -/
def Fcl (slot : Int) (d : AV) (line got : Nat) : List AV := [.int .i64 slot, d, .int .i64 (Int.ofNat line), .int .u8 (Int.ofNat got)]
def Scl (line head : Nat) (slot : Int) : List AV := [.int .i64 (Int.ofNat line), .int .u64 (Int.ofNat head), .int .i64 slot]
def Ccl (n : Nat) (read : Bool) : List AV := [.int .u8 (Int.ofNat 6), .int .i64 0, .int .i64 (Int.ofNat 1), .int .u64 (Int.ofNat 1), .int .u64 (Int.ofNat n), .bool read]
def Rcl (g line : Nat) (slot : Int) (gen birth epoch era : Nat) : List AV := [.ptr g 0, .int .i64 (Int.ofNat line), .int .i64 slot, .int .u32 (Int.ofNat gen), .bool false, .int .u64 (Int.ofNat birth), .int .u64 (Int.ofNat epoch), .int .u64 (Int.ofNat era)]
def pshI (b : Nat) : AV := .iface 113 (.ptr b 0)
def cntI (b : Nat) : AV := .iface 244 (.ptr b 0)
def nfF (b : Nat) : AV := .func (.func 117) [] [.ptr b 0]
def aPk : A3 := (6, 0, 1)
def aEp : A3 := (1, 0, 0)
theorem inj3 {b bm xa xd xk : Nat} (h : [b, bm, xa].Nodup) : ∀ x ∈ [4, 5, 6], ∀ y ∈ [4, 5, 6], p5 b bm xa xd xk x = p5 b bm xa xd xk y → x = y := by
  simp only [List.nodup_cons, List.mem_cons, List.not_mem_nil, or_false, not_or, List.nodup_nil, and_true, not_false_eq_true] at h
  obtain ⟨⟨h1, h2⟩, h3⟩ := h
  intro x hx y hy he
  simp only [List.mem_cons, List.not_mem_nil, or_false] at hx hy
  rcases hx with rfl | rfl | rfl <;> rcases hy with rfl | rfl | rfl <;> simp [p5] at he ⊢ <;> first | exact absurd he h1 | exact absurd he h2 | exact absurd he h3 | exact absurd he.symm h1 | exact absurd he.symm h2 | exact absurd he.symm h3
theorem nz3 {b bm xa xd xk : Nat} (h : 0 ∉ [b, bm, xa]) : ∀ x ∈ [4, 5, 6], p5 b bm xa xd xk x ≠ 0 := by
  simp only [List.mem_cons, List.not_mem_nil, or_false, not_or] at h
  obtain ⟨h1, h2, h3⟩ := h
  intro x hx
  simp only [List.mem_cons, List.not_mem_nil, or_false] at hx
  rcases hx with rfl | rfl | rfl <;> simp [p5] <;> omega
structure AIn3 (s : AS) (b bm xa : Nat) (M : PM) (A : List AV) : Prop where
  hb : s.get b = some (.cells false (M.C (.map bm)))
  hm : s.get bm = some (mapO M.ms)
  ha : s.get xa = some (.cells false A)
  h0 : ∃ ro, s.get 0 = some (.cells ro wf)
  nd : [b, bm, xa].Nodup
  nz : 0 ∉ [b, bm, xa]
  lt : ∀ a, getW M.ms a < 18446744073709551616
theorem n1q {n : Nat} (h : n + 1 < 18446744073709551616) : some (AV.int .u64 (Int.ofNat ((n + 1) % ((2 : Int) ^ IntKind.u64.bits).natAbs))) = some (AV.int .u64 (Int.ofNat (n + 1))) := by
  rw [nat64, Nat.mod_eq_of_lt h]
theorem g1q {n : Nat} (h : n + 1 < 4294967296) : some (AV.int .u32 (Int.ofNat ((n + 1) % ((2 : Int) ^ IntKind.u32.bits).natAbs))) = some (AV.int .u32 (Int.ofNat (n + 1))) := by
  rw [nat32, Nat.mod_eq_of_lt h]
theorem fs1_at {s : AS} {b bm xa xd xk : Nat} {M : PM} {mo : Nat} {z : Int} (h : AIn5 s b bm xa xd xk M (Fcl z (hdrI xd) 1 0) (Hcl z (nfF xk) 0 false 0) ([.int .u32 (Int.ofNat mo)])) :
    Sound Tryz.prog (.call 66 [.ptr xa 0, .ptr b 0] s) ⟨.ret, [.bool false], (((((s.set b (.cells false ((M.load (aL z 0)).C (.map bm)))).set bm (mapO (M.load (aL z 0)).ms)).set xa (.cells false (Fcl z (hdrI xd) 1 0))).set xd (.cells false (Hcl z (nfF xk) (hg (getW M.ms (aL z 0))) true 0))).set xk (.cells false ([.int .u32 (Int.ofNat mo)])))⟩ := by
  have hr := runX_sound mixed none_sound (fs_1 0 0 0 (getW M.ms (aL z 0)) 0 0 0 (hs (getW M.ms (aL z 0))) (hg (getW M.ms (aL z 0))) 0 mo 0 0 z 0 0 M (M.load (aL z 0)) (mapO M.ms) (mapO (M.load (aL z 0)).ms)) ⟨pload_at (b := 4) (bm := 5) (m := M) rfl rfl (aL z 0), fun s hs => phead _ (h.lt _) s hs, trivial⟩
  have hp := Sound.putFG (P := Tryz.prog) (f := 66) (Fz := [(0, wf)]) hr (p5 b bm xa xd xk) (glob5 (by omega)) [] s (frz0 (by omega) h.h0 rfl (show 0 ∉ [4, 5, 6, 7, 8] by decide) (nz5 h.nz))
    ⟨⟨show 4 < 9 by decide, rfl, rfl, rfl, h.hb, .inl rfl, rfl⟩, ⟨show 5 < 9 by decide, rfl, mapO_names _ _, rfl, by rw [mapO_ren]; exact h.hm, .inl rfl, mapO_names _ _⟩, ⟨show 6 < 9 by decide, rfl, rfl, rfl, h.ha, .inl rfl, rfl⟩, ⟨show 7 < 9 by decide, rfl, rfl, rfl, h.hd, .inl rfl, rfl⟩, ⟨show 8 < 9 by decide, rfl, rfl, rfl, h.hk, .inl rfl, rfl⟩, trivial⟩
    (inj5 h.nd) (show [4, 5, 6, 7, 8].Nodup by decide) List.nodup_nil (fun _ h => by cases h) rfl rfl
  change Sound Tryz.prog _ ⟨_, _, (((((s.set b (.cells false ((M.load (aL z 0)).C (.map bm)))).set bm ((mapO (M.load (aL z 0)).ms).ren _)).set xa (.cells false (Fcl z (hdrI xd) 1 0))).set xd (.cells false (Hcl z (nfF xk) (hg (getW M.ms (aL z 0))) true 0))).set xk (.cells false ([.int .u32 (Int.ofNat mo)])))⟩ at hp
  rw [mapO_ren] at hp
  exact hp
theorem fs2y_at {s : AS} {b bm xa xd xk : Nat} {M : PM} {mo g0 : Nat} {z : Int} (hg0 : g0 < mo) (hmo : mo < 4294967296) (h : AIn5 s b bm xa xd xk M (Fcl z (hdrI xd) 1 0) (Hcl z (nfF xk) g0 true 0) ([.int .u32 (Int.ofNat mo)])) :
    Sound Tryz.prog (.call 66 [.ptr xa 0, .ptr b 0] s) ⟨.ret, [.bool false], (((((s.set b (.cells false ((M.store (aL z 0) (mkw 0 (g0 + 1))).C (.map bm)))).set bm (mapO (M.store (aL z 0) (mkw 0 (g0 + 1))).ms)).set xa (.cells false (Fcl z (hdrI xd) 2 0))).set xd (.cells false (Hcl z (nfF xk) (g0 + 1) true 0))).set xk (.cells false ([.int .u32 (Int.ofNat mo)])))⟩ := by
  have hr := runX_sound mixed none_sound (fs_2y 0 0 0 0 (mkw 0 (g0 + 1)) 0 0 0 g0 (g0 + 1) mo 0 0 z 0 0 M (M.store (aL z 0) (mkw 0 (g0 + 1))) (mapO M.ms) (mapO (M.store (aL z 0) (mkw 0 (g0 + 1))).ms)) ⟨by simp [Qst.ok]; omega, g1q (by omega), fun s hs => header_call 0 (g0 + 1) (by omega) (by omega) s hs, pstore_at (b := 4) (bm := 5) (m := M) rfl rfl (aL z 0) (show (0 : Int) ≤ 9 by decide) (mkw 0 (g0 + 1)), trivial⟩
  have hp := Sound.putFG (P := Tryz.prog) (f := 66) (Fz := [(0, wf)]) hr (p5 b bm xa xd xk) (glob5 (by omega)) [] s (frz0 (by omega) h.h0 rfl (show 0 ∉ [4, 5, 6, 7, 8] by decide) (nz5 h.nz))
    ⟨⟨show 4 < 9 by decide, rfl, rfl, rfl, h.hb, .inl rfl, rfl⟩, ⟨show 5 < 9 by decide, rfl, mapO_names _ _, rfl, by rw [mapO_ren]; exact h.hm, .inl rfl, mapO_names _ _⟩, ⟨show 6 < 9 by decide, rfl, rfl, rfl, h.ha, .inl rfl, rfl⟩, ⟨show 7 < 9 by decide, rfl, rfl, rfl, h.hd, .inl rfl, rfl⟩, ⟨show 8 < 9 by decide, rfl, rfl, rfl, h.hk, .inl rfl, rfl⟩, trivial⟩
    (inj5 h.nd) (show [4, 5, 6, 7, 8].Nodup by decide) List.nodup_nil (fun _ h => by cases h) rfl rfl
  change Sound Tryz.prog _ ⟨_, _, (((((s.set b (.cells false ((M.store (aL z 0) (mkw 0 (g0 + 1))).C (.map bm)))).set bm ((mapO (M.store (aL z 0) (mkw 0 (g0 + 1))).ms).ren _)).set xa (.cells false (Fcl z (hdrI xd) 2 0))).set xd (.cells false (Hcl z (nfF xk) (g0 + 1) true 0))).set xk (.cells false ([.int .u32 (Int.ofNat mo)])))⟩ at hp
  rw [mapO_ren] at hp
  exact hp
theorem fs2g_at {s : AS} {b bm xa xd xk : Nat} {M : PM} {mo g0 : Nat} {z : Int} (hg0 : mo ≤ g0) (hg1 : g0 < 4294967296) (hz : 0 ≤ z ∧ z < 8) (h : AIn5 s b bm xa xd xk M (Fcl z (hdrI xd) 1 0) (Hcl z (nfF xk) g0 true 0) ([.int .u32 (Int.ofNat mo)])) :
    Sound Tryz.prog (.call 66 [.ptr xa 0, .ptr b 0] s) ⟨.ret, [.bool false], ((((((s.set b (.cells false ((M.store (aL z 0) (mkw 4 g0)).C (.map bm)))).set bm (mapO (M.store (aL z 0) (mkw 4 g0)).ms)).set xa (.cells false (Fcl z (cntI s.nx) 1 0))).set xd (.cells false (Hcl z (nfF xk) g0 true 4))).set xk (.cells false ([.int .u32 (Int.ofNat mo)]))).push (.cells false (Ccl 0 false)))⟩ := by
  have hr := runX_sound mixed none_sound (fs_2g 0 0 0 0 (mkw 4 g0) 0 0 0 g0 0 mo 0 0 z 0 0 M (M.store (aL z 0) (mkw 4 g0)) (mapO M.ms) (mapO (M.store (aL z 0) (mkw 4 g0)).ms)) ⟨by simp [Qst.ok]; omega, fun s hs => header_call 4 g0 (by omega) (by omega) s hs, pstore_at (b := 4) (bm := 5) (m := M) rfl rfl (aL z 0) (show (0 : Int) ≤ 9 by decide) (mkw 4 g0), tdiv8 hz, trivial⟩
  have hp := Sound.putFG (P := Tryz.prog) (f := 66) (Fz := [(0, wf)]) hr (p5 b bm xa xd xk) (glob5 (by omega)) [11] s (frz0 (by omega) h.h0 rfl (show 0 ∉ [4, 5, 6, 7, 8] by decide) (nz5 h.nz))
    ⟨⟨show 4 < 9 by decide, rfl, rfl, rfl, h.hb, .inl rfl, rfl⟩, ⟨show 5 < 9 by decide, rfl, mapO_names _ _, rfl, by rw [mapO_ren]; exact h.hm, .inl rfl, mapO_names _ _⟩, ⟨show 6 < 9 by decide, rfl, rfl, rfl, h.ha, .inl rfl, rfl⟩, ⟨show 7 < 9 by decide, rfl, rfl, rfl, h.hd, .inl rfl, rfl⟩, ⟨show 8 < 9 by decide, rfl, rfl, rfl, h.hk, .inl rfl, rfl⟩, trivial⟩
    (inj5 h.nd) (show [4, 5, 6, 7, 8].Nodup by decide) (by decide) (fun b hb => by
      simp only [List.mem_cons, List.not_mem_nil, or_false] at hb
      rcases hb with rfl <;> exact ⟨by decide, rfl, rfl⟩) rfl rfl
  change Sound Tryz.prog _ ⟨_, _, ((((((s.set b (.cells false ((M.store (aL z 0) (mkw 4 g0)).C (.map bm)))).set bm ((mapO (M.store (aL z 0) (mkw 4 g0)).ms).ren _)).set xa (.cells false (Fcl z (cntI s.nx) 1 0))).set xd (.cells false (Hcl z (nfF xk) g0 true 4))).set xk (.cells false ([.int .u32 (Int.ofNat mo)]))).push (.cells false (Ccl 0 false)))⟩ at hp
  rw [mapO_ren] at hp
  exact hp
theorem fs3_at {s : AS} {b bm xa xd xk : Nat} {M : PM} {mo g1 : Nat} {z : Int} (hz : 0 ≤ z ∧ z < 8) (hs : getW M.ms aSg ≠ 2) (h : AIn5 s b bm xa xd xk M (Fcl z (hdrI xd) 2 0) (Hcl z (nfF xk) g1 true 0) ([.int .u32 (Int.ofNat mo)])) :
    Sound Tryz.prog (.call 66 [.ptr xa 0, .ptr b 0] s) ⟨.ret, [.bool false], ((((((s.set b (.cells false ((M.load aSg).C (.map bm)))).set bm (mapO (M.load aSg).ms)).set xa (.cells false (Fcl z (pshI s.nx) 1 0))).set xd (.cells false (Hcl z (nfF xk) g1 true 0))).set xk (.cells false ([.int .u32 (Int.ofNat mo)]))).push (.cells false (Scl 1 0 z)))⟩ := by
  have hr := runX_sound mixed none_sound (fs_3 0 (getW M.ms aSg) 0 0 0 0 0 0 0 g1 mo 0 0 z 0 0 M (M.load aSg) (mapO M.ms) (mapO (M.load aSg).ms)) ⟨by simp [Qst.ok]; omega, by simp [Qst.ok]; omega, tdiv8 hz, pload_at (b := 4) (bm := 5) (m := M) rfl rfl aSg, by simp [Qst.ok]; omega, trivial⟩
  have hp := Sound.putFG (P := Tryz.prog) (f := 66) (Fz := [(0, wf)]) hr (p5 b bm xa xd xk) (glob5 (by omega)) [9] s (frz0 (by omega) h.h0 rfl (show 0 ∉ [4, 5, 6, 7, 8] by decide) (nz5 h.nz))
    ⟨⟨show 4 < 9 by decide, rfl, rfl, rfl, h.hb, .inl rfl, rfl⟩, ⟨show 5 < 9 by decide, rfl, mapO_names _ _, rfl, by rw [mapO_ren]; exact h.hm, .inl rfl, mapO_names _ _⟩, ⟨show 6 < 9 by decide, rfl, rfl, rfl, h.ha, .inl rfl, rfl⟩, ⟨show 7 < 9 by decide, rfl, rfl, rfl, h.hd, .inl rfl, rfl⟩, ⟨show 8 < 9 by decide, rfl, rfl, rfl, h.hk, .inl rfl, rfl⟩, trivial⟩
    (inj5 h.nd) (show [4, 5, 6, 7, 8].Nodup by decide) (by decide) (fun b hb => by
      simp only [List.mem_cons, List.not_mem_nil, or_false] at hb
      rcases hb with rfl <;> exact ⟨by decide, rfl, rfl⟩) rfl rfl
  change Sound Tryz.prog _ ⟨_, _, ((((((s.set b (.cells false ((M.load aSg).C (.map bm)))).set bm ((mapO (M.load aSg).ms).ren _)).set xa (.cells false (Fcl z (pshI s.nx) 1 0))).set xd (.cells false (Hcl z (nfF xk) g1 true 0))).set xk (.cells false ([.int .u32 (Int.ofNat mo)]))).push (.cells false (Scl 1 0 z)))⟩ at hp
  rw [mapO_ren] at hp
  exact hp
theorem fs4_at {s : AS} {b bm xa xd : Nat} {M : PM} {z : Int} (h : AIn s b bm xa xd M (Fcl z (pshI xd) 1 0) (Scl 1 0 z)) :
    Sound Tryz.prog (.call 66 [.ptr xa 0, .ptr b 0] s) ⟨.ret, [.bool false], ((((s.set b (.cells false ((M.load aF).C (.map bm)))).set bm (mapO (M.load aF).ms)).set xa (.cells false (Fcl z (pshI xd) 1 0))).set xd (.cells false (Scl 2 (getW M.ms aF) z)))⟩ := by
  have hr := runX_sound mixed none_sound (fs_4 (getW M.ms aF) 0 0 0 0 (tgN (getW M.ms aF)) 0 0 0 0 0 0 0 z (slI (getW M.ms aF)) 0 M (M.load aF) (mapO M.ms) (mapO (M.load aF).ms)) ⟨pload_at (b := 4) (bm := 5) (m := M) rfl rfl aF, fun s hs => ashead_call _ (h.lt aF) s hs, trivial⟩
  have hp := Sound.putFG (P := Tryz.prog) (f := 66) (Fz := [(0, wf)]) hr (p5 b bm xa xd 0) (glob5 (by omega)) [] s (frz0 (by omega) h.h0 rfl (show 0 ∉ [4, 5, 6, 7] by decide) (nz4 h.nz))
    ⟨⟨show 4 < 8 by decide, rfl, rfl, rfl, h.hb, .inl rfl, rfl⟩, ⟨show 5 < 8 by decide, rfl, mapO_names _ _, rfl, by rw [mapO_ren]; exact h.hm, .inl rfl, mapO_names _ _⟩, ⟨show 6 < 8 by decide, rfl, rfl, rfl, h.ha, .inl rfl, rfl⟩, ⟨show 7 < 8 by decide, rfl, rfl, rfl, h.hd, .inl rfl, rfl⟩, trivial⟩
    (inj4 h.nd) (show [4, 5, 6, 7].Nodup by decide) List.nodup_nil (fun _ h => by cases h) rfl rfl
  change Sound Tryz.prog _ ⟨_, _, ((((s.set b (.cells false ((M.load aF).C (.map bm)))).set bm ((mapO (M.load aF).ms).ren _)).set xa (.cells false (Fcl z (pshI xd) 1 0))).set xd (.cells false (Scl 2 (getW M.ms aF) z)))⟩ at hp
  rw [mapO_ren] at hp
  exact hp
theorem fs5_at {s : AS} {b bm xa xd : Nat} {M : PM} {w0 : Nat} {z : Int} (hw : w0 < 18446744073709551616) (h : AIn s b bm xa xd M (Fcl z (pshI xd) 1 0) (Scl 2 w0 z)) :
    Sound Tryz.prog (.call 66 [.ptr xa 0, .ptr b 0] s) ⟨.ret, [.bool false], ((((s.set b (.cells false ((M.store (aL z 2) (hdN (slI w0) 0)).C (.map bm)))).set bm (mapO (M.store (aL z 2) (hdN (slI w0) 0)).ms)).set xa (.cells false (Fcl z (pshI xd) 1 0))).set xd (.cells false (Scl 3 w0 z)))⟩ := by
  have hr := runX_sound mixed none_sound (fs_5 w0 0 (hdN (slI w0) 0) 0 0 (tgN w0) 0 0 0 0 0 0 0 z (slI w0) 0 M (M.store (aL z 2) (hdN (slI w0) 0)) (mapO M.ms) (mapO (M.store (aL z 2) (hdN (slI w0) 0)).ms)) ⟨fun s hs => ashead_call _ hw s hs, fun s hs => head_call (slI w0) 0 (by have := slI_or w0; omega) (by have := slI_or w0; omega) (by omega) s hs, pstore_at (b := 4) (bm := 5) (m := M) rfl rfl (aL z 2) (show (0 : Int) ≤ 9 by decide) (hdN (slI w0) 0), trivial⟩
  have hp := Sound.putFG (P := Tryz.prog) (f := 66) (Fz := [(0, wf)]) hr (p5 b bm xa xd 0) (glob5 (by omega)) [] s (frz0 (by omega) h.h0 rfl (show 0 ∉ [4, 5, 6, 7] by decide) (nz4 h.nz))
    ⟨⟨show 4 < 8 by decide, rfl, rfl, rfl, h.hb, .inl rfl, rfl⟩, ⟨show 5 < 8 by decide, rfl, mapO_names _ _, rfl, by rw [mapO_ren]; exact h.hm, .inl rfl, mapO_names _ _⟩, ⟨show 6 < 8 by decide, rfl, rfl, rfl, h.ha, .inl rfl, rfl⟩, ⟨show 7 < 8 by decide, rfl, rfl, rfl, h.hd, .inl rfl, rfl⟩, trivial⟩
    (inj4 h.nd) (show [4, 5, 6, 7].Nodup by decide) List.nodup_nil (fun _ h => by cases h) rfl rfl
  change Sound Tryz.prog _ ⟨_, _, ((((s.set b (.cells false ((M.store (aL z 2) (hdN (slI w0) 0)).C (.map bm)))).set bm ((mapO (M.store (aL z 2) (hdN (slI w0) 0)).ms).ren _)).set xa (.cells false (Fcl z (pshI xd) 1 0))).set xd (.cells false (Scl 3 w0 z)))⟩ at hp
  rw [mapO_ren] at hp
  exact hp
theorem fs6_at {s : AS} {b bm xa xd : Nat} {M : PM} {w0 : Nat} {z : Int} (hw : w0 < 18446744073709551616) (hz : 0 ≤ z ∧ z < 8) (hc : getW M.ms aF = w0) (h : AIn s b bm xa xd M (Fcl z (pshI xd) 1 0) (Scl 3 w0 z)) :
    Sound Tryz.prog (.call 66 [.ptr xa 0, .ptr b 0] s) ⟨.ret, [.bool true], ((((s.set b (.cells false ((M.cas aF w0 (hdN z (tgN w0 + 1))).C (.map bm)))).set bm (mapO (M.cas aF w0 (hdN z (tgN w0 + 1))).ms)).set xa (.cells false (Fcl z (pshI xd) 0 0))).set xd (.cells false (Scl 0 w0 z)))⟩ := by
  have hr := runX_sound mixed none_sound (fs_6 w0 0 (hdN z (tgN w0 + 1)) 0 0 (tgN w0) (tgN w0 + 1) 0 0 0 0 0 0 z (slI w0) 0 M (M.cas aF w0 (hdN z (tgN w0 + 1))) (mapO M.ms) (mapO (M.cas aF w0 (hdN z (tgN w0 + 1))).ms)) ⟨fun s hs => ashead_call _ hw s hs, t3q w0, fun s hs => head_call z (tgN w0 + 1) (by omega) (by omega) (by have := tg_lt w0; omega) s hs, pcas_yes (b := 4) (bm := 5) (m := M) rfl rfl aF (by decide) w0 (hdN z (tgN w0 + 1)) (by simp [PM.casd, hc]; decide), trivial⟩
  have hp := Sound.putFG (P := Tryz.prog) (f := 66) (Fz := [(0, wf)]) hr (p5 b bm xa xd 0) (glob5 (by omega)) [] s (frz0 (by omega) h.h0 rfl (show 0 ∉ [4, 5, 6, 7] by decide) (nz4 h.nz))
    ⟨⟨show 4 < 8 by decide, rfl, rfl, rfl, h.hb, .inl rfl, rfl⟩, ⟨show 5 < 8 by decide, rfl, mapO_names _ _, rfl, by rw [mapO_ren]; exact h.hm, .inl rfl, mapO_names _ _⟩, ⟨show 6 < 8 by decide, rfl, rfl, rfl, h.ha, .inl rfl, rfl⟩, ⟨show 7 < 8 by decide, rfl, rfl, rfl, h.hd, .inl rfl, rfl⟩, trivial⟩
    (inj4 h.nd) (show [4, 5, 6, 7].Nodup by decide) List.nodup_nil (fun _ h => by cases h) rfl rfl
  change Sound Tryz.prog _ ⟨_, _, ((((s.set b (.cells false ((M.cas aF w0 (hdN z (tgN w0 + 1))).C (.map bm)))).set bm ((mapO (M.cas aF w0 (hdN z (tgN w0 + 1))).ms).ren _)).set xa (.cells false (Fcl z (pshI xd) 0 0))).set xd (.cells false (Scl 0 w0 z)))⟩ at hp
  rw [mapO_ren] at hp
  exact hp
theorem fg3_at {s : AS} {b bm xa xd : Nat} {M : PM} {z : Int} (h : AIn s b bm xa xd M (Fcl z (cntI xd) 1 0) (Ccl 0 false)) :
    Sound Tryz.prog (.call 66 [.ptr xa 0, .ptr b 0] s) ⟨.ret, [.bool false], ((((s.set b (.cells false ((M.load aPk).C (.map bm)))).set bm (mapO (M.load aPk).ms)).set xa (.cells false (Fcl z (cntI xd) 1 0))).set xd (.cells false (Ccl (getW M.ms aPk) true)))⟩ := by
  have hr := runX_sound mixed none_sound (fg_3 0 0 0 0 0 0 0 0 0 0 0 (getW M.ms aPk) 0 z 0 0 M (M.load aPk) (mapO M.ms) (mapO (M.load aPk).ms)) ⟨pload_at (b := 4) (bm := 5) (m := M) rfl rfl aPk, trivial⟩
  have hp := Sound.putFG (P := Tryz.prog) (f := 66) (Fz := [(0, wf)]) hr (p5 b bm xa xd 0) (glob5 (by omega)) [] s (frz0 (by omega) h.h0 rfl (show 0 ∉ [4, 5, 6, 7] by decide) (nz4 h.nz))
    ⟨⟨show 4 < 8 by decide, rfl, rfl, rfl, h.hb, .inl rfl, rfl⟩, ⟨show 5 < 8 by decide, rfl, mapO_names _ _, rfl, by rw [mapO_ren]; exact h.hm, .inl rfl, mapO_names _ _⟩, ⟨show 6 < 8 by decide, rfl, rfl, rfl, h.ha, .inl rfl, rfl⟩, ⟨show 7 < 8 by decide, rfl, rfl, rfl, h.hd, .inl rfl, rfl⟩, trivial⟩
    (inj4 h.nd) (show [4, 5, 6, 7].Nodup by decide) List.nodup_nil (fun _ h => by cases h) rfl rfl
  change Sound Tryz.prog _ ⟨_, _, ((((s.set b (.cells false ((M.load aPk).C (.map bm)))).set bm ((mapO (M.load aPk).ms).ren _)).set xa (.cells false (Fcl z (cntI xd) 1 0))).set xd (.cells false (Ccl (getW M.ms aPk) true)))⟩ at hp
  rw [mapO_ren] at hp
  exact hp
theorem fg4_at {s : AS} {b bm xa xd : Nat} {M : PM} {n0 : Nat} {z : Int} (hn : n0 + 1 < 18446744073709551616) (hc : getW M.ms aPk = n0) (h : AIn s b bm xa xd M (Fcl z (cntI xd) 1 0) (Ccl n0 true)) :
    Sound Tryz.prog (.call 66 [.ptr xa 0, .ptr b 0] s) ⟨.ret, [.bool true], ((((s.set b (.cells false ((M.cas aPk n0 (n0 + 1)).C (.map bm)))).set bm (mapO (M.cas aPk n0 (n0 + 1)).ms)).set xa (.cells false (Fcl z (cntI xd) 0 4))).set xd (.cells false (Ccl n0 false)))⟩ := by
  have hr := runX_sound mixed none_sound (fg_4 0 0 0 0 0 0 0 0 0 0 0 n0 (n0 + 1) z 0 0 M (M.cas aPk n0 (n0 + 1)) (mapO M.ms) (mapO (M.cas aPk n0 (n0 + 1)).ms)) ⟨n1q hn, pcas_yes (b := 4) (bm := 5) (m := M) rfl rfl aPk (by decide) n0 (n0 + 1) (by simp [PM.casd, hc]; decide), trivial⟩
  have hp := Sound.putFG (P := Tryz.prog) (f := 66) (Fz := [(0, wf)]) hr (p5 b bm xa xd 0) (glob5 (by omega)) [] s (frz0 (by omega) h.h0 rfl (show 0 ∉ [4, 5, 6, 7] by decide) (nz4 h.nz))
    ⟨⟨show 4 < 8 by decide, rfl, rfl, rfl, h.hb, .inl rfl, rfl⟩, ⟨show 5 < 8 by decide, rfl, mapO_names _ _, rfl, by rw [mapO_ren]; exact h.hm, .inl rfl, mapO_names _ _⟩, ⟨show 6 < 8 by decide, rfl, rfl, rfl, h.ha, .inl rfl, rfl⟩, ⟨show 7 < 8 by decide, rfl, rfl, rfl, h.hd, .inl rfl, rfl⟩, trivial⟩
    (inj4 h.nd) (show [4, 5, 6, 7].Nodup by decide) List.nodup_nil (fun _ h => by cases h) rfl rfl
  change Sound Tryz.prog _ ⟨_, _, ((((s.set b (.cells false ((M.cas aPk n0 (n0 + 1)).C (.map bm)))).set bm ((mapO (M.cas aPk n0 (n0 + 1)).ms).ren _)).set xa (.cells false (Fcl z (cntI xd) 0 4))).set xd (.cells false (Ccl n0 false)))⟩ at hp
  rw [mapO_ren] at hp
  exact hp
theorem rs1_at {s : AS} {b bm xa xg : Nat} {M : PM} {z : Int} {g0 : Nat} (h : AIn3 s b bm xa M (Rcl xg 1 z g0 0 0 0)) :
    Sound Tryz.prog (.call 63 [.ptr xa 0, .ptr b 0] s) ⟨.ret, [.bool false], (((s.set b (.cells false ((M.load aEp).C (.map bm)))).set bm (mapO (M.load aEp).ms)).set xa (.cells false (Rcl xg 2 z g0 0 (getW M.ms aEp) 0)))⟩ := by
  have hr := runX_sound mixed none_sound (rs_1 (getW M.ms aEp) 0 0 0 g0 z M (M.load aEp) (mapO M.ms) (mapO (M.load aEp).ms) 0 id undefA undefA undefA undefA undefA undefA undefA undefA undefA undefA) ⟨pload_at (b := 4) (bm := 5) (m := M) rfl rfl aEp, trivial⟩
  have hp := Sound.putFG (P := Tryz.prog) (f := 63) (Fz := [(0, wf)]) hr (p5 b bm xa xg 0) (glob5 (by omega)) [] s (frz0 (by omega) h.h0 rfl (show 0 ∉ [4, 5, 6] by decide) (nz3 h.nz))
    ⟨⟨show 4 < 8 by decide, rfl, rfl, rfl, h.hb, .inl rfl, rfl⟩, ⟨show 5 < 8 by decide, rfl, mapO_names _ _, rfl, by rw [mapO_ren]; exact h.hm, .inl rfl, mapO_names _ _⟩, ⟨show 6 < 8 by decide, rfl, rfl, rfl, h.ha, .inl rfl, rfl⟩, trivial⟩
    (inj3 h.nd) (show [4, 5, 6].Nodup by decide) List.nodup_nil (fun _ h => by cases h) rfl rfl
  change Sound Tryz.prog _ ⟨_, _, (((s.set b (.cells false ((M.load aEp).C (.map bm)))).set bm ((mapO (M.load aEp).ms).ren _)).set xa (.cells false (Rcl xg 2 z g0 0 (getW M.ms aEp) 0)))⟩ at hp
  rw [mapO_ren] at hp
  exact hp
theorem rs2_at {s : AS} {b bm xa xg : Nat} {M : PM} {z : Int} {g0 ep : Nat} (h : AIn3 s b bm xa M (Rcl xg 2 z g0 0 ep 0)) :
    Sound Tryz.prog (.call 63 [.ptr xa 0, .ptr b 0] s) ⟨.ret, [.bool false], (((s.set b (.cells false ((M.load aEra).C (.map bm)))).set bm (mapO (M.load aEra).ms)).set xa (.cells false (Rcl xg 3 z g0 0 ep (getW M.ms aEra))))⟩ := by
  have hr := runX_sound mixed none_sound (rs_2 (getW M.ms aEra) 0 ep 0 g0 z M (M.load aEra) (mapO M.ms) (mapO (M.load aEra).ms) 0 id undefA undefA undefA undefA undefA undefA undefA undefA undefA undefA) ⟨pload_at (b := 4) (bm := 5) (m := M) rfl rfl aEra, trivial⟩
  have hp := Sound.putFG (P := Tryz.prog) (f := 63) (Fz := [(0, wf)]) hr (p5 b bm xa xg 0) (glob5 (by omega)) [] s (frz0 (by omega) h.h0 rfl (show 0 ∉ [4, 5, 6] by decide) (nz3 h.nz))
    ⟨⟨show 4 < 8 by decide, rfl, rfl, rfl, h.hb, .inl rfl, rfl⟩, ⟨show 5 < 8 by decide, rfl, mapO_names _ _, rfl, by rw [mapO_ren]; exact h.hm, .inl rfl, mapO_names _ _⟩, ⟨show 6 < 8 by decide, rfl, rfl, rfl, h.ha, .inl rfl, rfl⟩, trivial⟩
    (inj3 h.nd) (show [4, 5, 6].Nodup by decide) List.nodup_nil (fun _ h => by cases h) rfl rfl
  change Sound Tryz.prog _ ⟨_, _, (((s.set b (.cells false ((M.load aEra).C (.map bm)))).set bm ((mapO (M.load aEra).ms).ren _)).set xa (.cells false (Rcl xg 3 z g0 0 ep (getW M.ms aEra))))⟩ at hp
  rw [mapO_ren] at hp
  exact hp
theorem rs3_at {s : AS} {b bm xa xg : Nat} {M : PM} {z : Int} {g0 ep er : Nat} (h : AIn3 s b bm xa M (Rcl xg 3 z g0 0 ep er)) :
    Sound Tryz.prog (.call 63 [.ptr xa 0, .ptr b 0] s) ⟨.ret, [.bool false], (((s.set b (.cells false ((M.load (aL z 1)).C (.map bm)))).set bm (mapO (M.load (aL z 1)).ms)).set xa (.cells false (Rcl xg 4 z g0 (getW M.ms (aL z 1)) ep er)))⟩ := by
  have hr := runX_sound mixed none_sound (rs_3 er (getW M.ms (aL z 1)) ep 0 g0 z M (M.load (aL z 1)) (mapO M.ms) (mapO (M.load (aL z 1)).ms) 0 id undefA undefA undefA undefA undefA undefA undefA undefA undefA undefA) ⟨pload_at (b := 4) (bm := 5) (m := M) rfl rfl (aL z 1), trivial⟩
  have hp := Sound.putFG (P := Tryz.prog) (f := 63) (Fz := [(0, wf)]) hr (p5 b bm xa xg 0) (glob5 (by omega)) [] s (frz0 (by omega) h.h0 rfl (show 0 ∉ [4, 5, 6] by decide) (nz3 h.nz))
    ⟨⟨show 4 < 8 by decide, rfl, rfl, rfl, h.hb, .inl rfl, rfl⟩, ⟨show 5 < 8 by decide, rfl, mapO_names _ _, rfl, by rw [mapO_ren]; exact h.hm, .inl rfl, mapO_names _ _⟩, ⟨show 6 < 8 by decide, rfl, rfl, rfl, h.ha, .inl rfl, rfl⟩, trivial⟩
    (inj3 h.nd) (show [4, 5, 6].Nodup by decide) List.nodup_nil (fun _ h => by cases h) rfl rfl
  change Sound Tryz.prog _ ⟨_, _, (((s.set b (.cells false ((M.load (aL z 1)).C (.map bm)))).set bm ((mapO (M.load (aL z 1)).ms).ren _)).set xa (.cells false (Rcl xg 4 z g0 (getW M.ms (aL z 1)) ep er)))⟩ at hp
  rw [mapO_ren] at hp
  exact hp
theorem rs4_at {s : AS} {b bm xa xg : Nat} {M : PM} {z : Int} {g0 bi ep er : Nat} (h : AIn3 s b bm xa M (Rcl xg 4 z g0 bi ep er)) :
    Sound Tryz.prog (.call 63 [.ptr xa 0, .ptr b 0] s) ⟨.ret, [.bool false], (((s.set b (.cells false ((M.store (aL z 3) ep).C (.map bm)))).set bm (mapO (M.store (aL z 3) ep).ms)).set xa (.cells false (Rcl xg 5 z g0 bi ep er)))⟩ := by
  have hr := runX_sound mixed none_sound (rs_4 er bi ep 0 g0 z M (M.store (aL z 3) ep) (mapO M.ms) (mapO (M.store (aL z 3) ep).ms) 0 id undefA undefA undefA undefA undefA undefA undefA undefA undefA undefA) ⟨pstore_at (b := 4) (bm := 5) (m := M) rfl rfl (aL z 3) (show (0 : Int) ≤ 9 by decide) ep, trivial⟩
  have hp := Sound.putFG (P := Tryz.prog) (f := 63) (Fz := [(0, wf)]) hr (p5 b bm xa xg 0) (glob5 (by omega)) [] s (frz0 (by omega) h.h0 rfl (show 0 ∉ [4, 5, 6] by decide) (nz3 h.nz))
    ⟨⟨show 4 < 8 by decide, rfl, rfl, rfl, h.hb, .inl rfl, rfl⟩, ⟨show 5 < 8 by decide, rfl, mapO_names _ _, rfl, by rw [mapO_ren]; exact h.hm, .inl rfl, mapO_names _ _⟩, ⟨show 6 < 8 by decide, rfl, rfl, rfl, h.ha, .inl rfl, rfl⟩, trivial⟩
    (inj3 h.nd) (show [4, 5, 6].Nodup by decide) List.nodup_nil (fun _ h => by cases h) rfl rfl
  change Sound Tryz.prog _ ⟨_, _, (((s.set b (.cells false ((M.store (aL z 3) ep).C (.map bm)))).set bm ((mapO (M.store (aL z 3) ep).ms).ren _)).set xa (.cells false (Rcl xg 5 z g0 bi ep er)))⟩ at hp
  rw [mapO_ren] at hp
  exact hp
theorem rs5_at {s : AS} {b bm xa xg : Nat} {M : PM} {z : Int} {g0 bi ep er : Nat} (h : AIn3 s b bm xa M (Rcl xg 5 z g0 bi ep er)) :
    Sound Tryz.prog (.call 63 [.ptr xa 0, .ptr b 0] s) ⟨.ret, [.bool false], (((s.set b (.cells false ((M.store (aL z 4) er).C (.map bm)))).set bm (mapO (M.store (aL z 4) er).ms)).set xa (.cells false (Rcl xg 6 z g0 bi ep er)))⟩ := by
  have hr := runX_sound mixed none_sound (rs_5 er bi ep 0 g0 z M (M.store (aL z 4) er) (mapO M.ms) (mapO (M.store (aL z 4) er).ms) 0 id undefA undefA undefA undefA undefA undefA undefA undefA undefA undefA) ⟨pstore_at (b := 4) (bm := 5) (m := M) rfl rfl (aL z 4) (show (0 : Int) ≤ 9 by decide) er, trivial⟩
  have hp := Sound.putFG (P := Tryz.prog) (f := 63) (Fz := [(0, wf)]) hr (p5 b bm xa xg 0) (glob5 (by omega)) [] s (frz0 (by omega) h.h0 rfl (show 0 ∉ [4, 5, 6] by decide) (nz3 h.nz))
    ⟨⟨show 4 < 8 by decide, rfl, rfl, rfl, h.hb, .inl rfl, rfl⟩, ⟨show 5 < 8 by decide, rfl, mapO_names _ _, rfl, by rw [mapO_ren]; exact h.hm, .inl rfl, mapO_names _ _⟩, ⟨show 6 < 8 by decide, rfl, rfl, rfl, h.ha, .inl rfl, rfl⟩, trivial⟩
    (inj3 h.nd) (show [4, 5, 6].Nodup by decide) List.nodup_nil (fun _ h => by cases h) rfl rfl
  change Sound Tryz.prog _ ⟨_, _, (((s.set b (.cells false ((M.store (aL z 4) er).C (.map bm)))).set bm ((mapO (M.store (aL z 4) er).ms).ren _)).set xa (.cells false (Rcl xg 6 z g0 bi ep er)))⟩ at hp
  rw [mapO_ren] at hp
  exact hp
end Go.Proofs.YtimnagafechmbaaGreatDoor.ghostsArena
