/- The steps of a Take, and of a Scan, wherever they lie. Conditions: those that each theorem names, and no others. -/
import Derived.Test.YtimnagafechmbaaGreatDoorOrph3
import Derived.Test.YtimnagafechmbaaGreatDoorOrph4
import Derived.Test.YtimnagafechmbaaGreatDoorOrph5
namespace Go.Proofs.YtimnagafechmbaaGreatDoor.scansOrphans
open Go Go.Mini
/-! ### words of the memory; what the blocks of two takers hold -/
def aF : A3 := (0, 0, 0)
def aL (z : Int) (f : Int) : A3 := (9, z, f)
theorem tg_lt (w : Nat) : tgN w < 281474976710656 := Nat.mod_lt _ (by omega)
theorem t3q (w : Nat) : some (AV.int .u64 (Int.ofNat ((tgN w + 1) % ((2 : Int) ^ IntKind.u64.bits).natAbs))) = some (AV.int .u64 (Int.ofNat (tgN w + 1))) := by
  rw [nat64, Nat.mod_eq_of_lt (by have := tg_lt w; omega)]
theorem pcas_yes {s : AS} {b bm : Nat} {m : PM} (hb : s.get b = some (.cells false (m.C (.map bm)))) (hm : s.get bm = some (mapO m.ms)) (a : A3) (h0 : 0 ≤ a.1) (w u : Nat) (hk : m.casd a w = true) : Sound Tryz.prog (.call 157 [.ptr b 0, .agg (ak a), .int .u64 (Int.ofNat w), .int .u64 (Int.ofNat u)] s) ⟨.ret, [.bool true], (s.set b (.cells false ((m.cas a w u).C (.map bm)))).set bm (mapO (m.cas a w u).ms)⟩ := by
  have h := pcas_at hb hm a h0 w u
  rw [hk] at h
  exact h
def aEra : A3 := (2, 0, 0)
def aEp : A3 := (1, 0, 0)
theorem get_put {a b : A3} {v : Nat} : ∀ {ms : MS}, getW (putW ms a v) b = if b = a then v else getW ms b
  | [] => by simp only [putW, getW]
  | x :: t => by
    simp only [putW]
    split
    · rename_i h
      subst h
      simp only [getW]
      split <;> rfl
    · rename_i h
      simp only [getW]
      split
      · rename_i h2
        rw [if_neg (fun e => h (e.symm.trans h2))]
      · exact get_put
def Lt (M : PM) : Prop := ∀ a, getW M.ms a < 18446744073709551616
theorem Lt.load {M : PM} (h : Lt M) (a : A3) : Lt (M.load a) := h
theorem Lt.store {M : PM} (h : Lt M) (a : A3) {u : Nat} (hu : u < 18446744073709551616) : Lt (M.store a u) := by
  unfold PM.store
  split
  · intro b
    show getW (putW M.ms a u) b < _
    rw [get_put]
    split
    · exact hu
    · exact h b
  · exact h
theorem Lt.cas {M : PM} (h : Lt M) (a : A3) (w : Nat) {u : Nat} (hu : u < 18446744073709551616) : Lt (M.cas a w u) := by
  unfold PM.cas
  split
  · intro b
    show getW (putW M.ms a u) b < _
    rw [get_put]
    split
    · exact hu
    · exact h b
  · exact h
def aO : A3 := (4, 0, 0)
def aPh : A3 := (3, 0, 0)
def aBl : A3 := (5, 0, 0)
def aTh (k f : Int) : A3 := (8, k, f)
def aS1 : A3 := (6, 1, 0)
def Fz0 : List (Nat × List AV) := [(0, wf)]
def mem (M : PM) : List (Nat × AObj) := [(4, .cells false (M.C (.map 5))), (5, mapO M.ms)]
def takeO (line hd : Nat) (slot es : Int) (got : AV) : AObj := .cells false [.int .i64 (Int.ofNat line), .int .u64 (Int.ofNat hd), .int .i64 slot, .int .i64 es, .int .u32 (Int.ofNat 0), .bool false, .int .u64 (Int.ofNat 0), .int .u64 (Int.ofNat 0), .int .u64 (Int.ofNat 0), got]
def guardO (th : Nat) : AObj := .cells false [.bool false, .int .u8 (Int.ofNat 0), .int .u64 (Int.ofNat 0), .int .u64 (Int.ofNat 0), .int .u64 (Int.ofNat 0), .int .u64 (Int.ofNat 0), .bool true, .int .i64 (Int.ofNat th), .ptr 8 0]
def scanO (now : AV) (sc m : Nat) (sn gs fr : AV) : AObj := .cells false [.ptr 7 0, .int .u32 (Int.ofNat 9), now, .int .u8 (Int.ofNat sc), .int .i64 (Int.ofNat m), sn, .int .u64 (Int.ofNat 0), gs, fr]
def advO (line e k al : Nat) (mv : Bool) : AObj := .cells false [.int .i64 (Int.ofNat line), .int .u64 (Int.ofNat e), .int .i64 (Int.ofNat k), .int .i64 (Int.ofNat al), .bool mv]
def bmpO (left e : Nat) : AObj := .cells false [.int .i64 (Int.ofNat left), .int .u64 (Int.ofNat e), .bool false]
def ldO (kd w : Nat) : AObj := .cells false [.int .u8 (Int.ofNat kd), .int .u64 (Int.ofNat w)]
def tkO (f : Nat) (sn : AV) (k fl al : Nat) : AObj := .cells false [.func (.func f) [.ptr 11 0] [], sn, .int .u64 (Int.ofNat 0), .int .i64 (Int.ofNat k), .int .i64 (Int.ofNat fl), .int .i64 (Int.ofNat al)]
def sl (i : Nat) : Int := Int.ofNat (15 - i)
def eC (i : Nat) : List AV := [.int .i64 (sl i), .int .u32 (Int.ofNat 0), .bool false, .int .u64 (Int.ofNat 0), .int .u64 (Int.ofNat 0), .int .u64 (Int.ofNat 0)]
def rC (i : Nat) : List AV := [.int .i64 (sl i), .int .u32 (Int.ofNat 0), .bool false]
def ents : Nat → List AV
  | 0 => []
  | n + 1 => ents n ++ eC n
def refs : Nat → List AV
  | 0 => []
  | n + 1 => refs n ++ rC n
def hadL : Nat → List (AV × AV)
  | 0 => []
  | n + 1 => hadL n ++ [(.agg (rC n), .int .i64 (Int.ofNat 1))]
def gotV : Nat → AV
  | 0 => .nilSlice
  | i + 1 => .osl 13 0 (i + 1) 6
def listO : Nat → AObj
  | 0 => .cells false [.nilSlice, .nilMap]
  | m + 1 => .cells false [.osl 13 0 (m + 1) 6, .map 12]
def ownRow : Nat → Nat → List AV
  | _, 0 => []
  | k, n + 1 => ownRow k n ++ .int .u64 (Int.ofNat (bif Nat.blt n k then 1 else 0)) :: List.replicate 9 (.int .u64 (Int.ofNat 0))
def R40 : List AV := ownRow 4 4
theorem kan {bs : List (Nat × AObj)} (h : eachX (fun b o => b < 40 ∧ o.rw = true ∧ o.names (fun c => Nat.blt c 40) = true ∧ getB bs b = some o) bs) (hn : (bs.map (·.1)).Nodup) (hz : 0 ∉ bs.map (·.1)) : Kan Tryz.prog bs Fz0 40 :=
  ⟨by rw [glN]; decide, h, hn, fun x hx => by
    simp only [Fz0, List.mem_cons, List.not_mem_nil, or_false] at hx
    subst hx
    exact ⟨by decide, hz, by decide⟩⟩
/-- A run that is looked at in some places. -/
theorem run_at {n f : Nat} {t : Task} {ds : List Dec} {v : AV} {q : List Qst} (tab : List (Nat × AObj)) (h : (runX Tryz.prog none_ n f t ds).map (fun x => (x.1.ts, tab.map (fun y => x.1.s.get y.1), x.2.2)) = some ([v], tab.map (fun y => some y.2), q)) (hq : Qsts Tryz.prog q) :
    ∃ e s1, Sound Tryz.prog t ⟨e, [v], s1⟩ ∧ ∀ y ∈ tab, s1.get y.1 = some y.2 := by
  cases hr : runX Tryz.prog none_ n f t ds with
  | none => rw [hr] at h; cases h
  | some x =>
    rw [hr] at h
    obtain ⟨⟨e, ts, s1⟩, ds', q'⟩ := x
    simp only [Option.map_some, Option.some.injEq, Prod.mk.injEq] at h
    obtain ⟨rfl, h1, rfl⟩ := h
    refine ⟨e, s1, runX_sound mixed none_sound hr hq, fun y hy => ?_⟩
    have := List.map_inj_left.1 h1 y hy
    exact this
end Go.Proofs.YtimnagafechmbaaGreatDoor.scansOrphans
namespace Go.Proofs.YtimnagafechmbaaGreatDoor.scansOrphans
open Go Go.Mini
/-! ### a Take's steps, wherever it lies -/
def κ1 (a c b : Nat) : Nat := bif Nat.beq b a then c else b
theorem κ_low {κ : Nat → Nat} (h : κ 0 = 0 ∧ κ 1 = 1) : ∀ _ : True, ∀ g, g < Tryz.prog.globals.size → κ g = g := fun _ g hg => by
  rw [glN] at hg
  have : g = 0 ∨ g = 1 := by omega
  rcases this with rfl | rfl
  · exact h.1
  · exact h.2
theorem κ_z {κ : Nat → Nat} (h : κ 0 = 0 := by rfl) : ∀ x ∈ Fz0, κ x.1 = x.1 := fun x hx => by
  simp only [Fz0, List.mem_cons, List.not_mem_nil, or_false] at hx
  subst hx
  exact h
theorem pload_eq {s : AS} {b bm : Nat} {m : PM} (hb : s.get b = some (.cells false (m.C (.map bm)))) (hm : s.get bm = some (mapO m.ms)) (a : A3) (w : Nat) (h : getW m.ms a = w) : Sound Tryz.prog (.call 55 [.ptr b 0, .agg (ak a)] s) ⟨.ret, [.int .u64 (Int.ofNat w)], s.set b (.cells false ((m.load a).C (.map bm)))⟩ := by
  subst h
  exact pload_at hb hm a
theorem pcas_no {s : AS} {b bm : Nat} {m : PM} (hb : s.get b = some (.cells false (m.C (.map bm)))) (hm : s.get bm = some (mapO m.ms)) (a : A3) (h0 : 0 ≤ a.1) (w u : Nat) (hk : m.casd a w = false) : Sound Tryz.prog (.call 157 [.ptr b 0, .agg (ak a), .int .u64 (Int.ofNat w), .int .u64 (Int.ofNat u)] s) ⟨.ret, [.bool false], (s.set b (.cells false ((m.cas a w u).C (.map bm)))).set bm (mapO (m.cas a w u).ms)⟩ := by
  have h := pcas_at hb hm a h0 w u
  rw [hk] at h
  exact h
theorem ashead_eq (w : Nat) (z : Int) (h : slI w = z) (hw : w < 18446744073709551616) (s : AS) (hG : hasG s G = true) : Sound Tryz.prog (.call 129 [.int .u64 (Int.ofNat w)] s) ⟨.ret, [.tuple [.int .i64 z, .int .u64 (Int.ofNat (tgN w))]], s⟩ := by
  subst h
  exact ashead_call w hw s hG
theorem phead_eq (w g : Nat) (h : hg w = g) (hw : w < 18446744073709551616) (s : AS) (hG : hasG s G = true) : Sound Tryz.prog (.call 61 [.int .u64 (Int.ofNat w)] s) ⟨.ret, [.tuple [.int .u8 (Int.ofNat (hs w)), .int .u32 (Int.ofNat g)]], s⟩ := by
  subst h
  exact phead w hw s hG
theorem rowE : rowT Tryz.prog 32 32 6 = true := by kernel_rfl
theorem ents_one : ∀ n, (ents n).all AV.one = true
  | 0 => rfl
  | n + 1 => by
    show (ents n ++ eC n).all AV.one = true
    rw [List.all_append, ents_one n]
    rfl
theorem ents_len : ∀ n, (ents n).length = n * 6
  | 0 => rfl
  | n + 1 => by
    show (ents n ++ eC n).length = _
    rw [List.length_append, ents_len n]
    show n * 6 + 6 = _
    omega
theorem namess_app2 (p : Nat → Bool) : ∀ (a b : List AV), namess p (a ++ b) = (namess p a && namess p b)
  | [], b => rfl
  | x :: a, b => by
    show (x.names p && namess p (a ++ b)) = ((x.names p && namess p a) && namess p b)
    rw [namess_app2 p a b, Bool.and_assoc]
theorem ents_names (p : Nat → Bool) : ∀ n, namess p (ents n) = true
  | 0 => rfl
  | n + 1 => by
    show namess p (ents n ++ eC n) = true
    rw [namess_app2, ents_names p n]
    rfl
theorem ents_ren (κ : Nat → Nat) (n : Nat) : rens κ (ents n) = ents n := rens_no (ents_names _ n)
theorem ents_o (s : AS) (b n : Nat) (κ : Nat → Nat) (h : s.get b = some (.cells false (ents n))) : s.get b = some ((AObj.cells false (ents n)).ren κ) := by
  rw [h]
  show _ = some (AObj.cells false (rens κ (ents n)))
  rw [ents_ren]
theorem k1n_at {M : PM} {hd : Nat} (hL : Lt M) (h : 0 ≤ slI (getW M.ms aO)) : StepF Tryz.prog Fz0 40 42 [.ptr 9 0, .ptr 4 0] (.bool false) (mem M ++ [(9, takeO 1 hd 0 0 .nilSlice)]) (mem (M.load aO) ++ [(9, takeO 2 (getW M.ms aO) 0 0 .nilSlice)]) id := by
  have hr := runX_sound mixed none_sound (k_1n (getW M.ms aO) 0 0 hd (tgN (getW M.ms aO)) 0 0 0 0 0 0 0 0 (slI (getW M.ms aO)) 0 0 M (M.load aO) (mapO M.ms) .dead .dead .nilSlice []) ⟨pload_at (b := 4) (bm := 5) (m := M) rfl rfl aO, fun s hs => ashead_call _ (hL aO) s hs, by simp [Qst.ok]; omega, trivial⟩
  exact step_mk hr [] (kan ⟨⟨show 4 < 40 by decide, rfl, rfl, rfl⟩, ⟨show 5 < 40 by decide, rfl, mapO_names _ _, rfl⟩, ⟨show 9 < 40 by decide, rfl, rfl, rfl⟩, trivial⟩ (show ([4, 5, 9] : List Nat).Nodup by decide) (show 0 ∉ ([4, 5, 9] : List Nat) by decide)) List.nodup_nil (fun _ h => by cases h) (fun _ _ => rfl) (fun _ _ => rfl) ⟨⟨.inl (show 4 ∈ ([4, 5, 9] : List Nat) by decide), rfl⟩, ⟨.inl (show 5 ∈ ([4, 5, 9] : List Nat) by decide), by rw [mapO_ren]; rfl⟩, ⟨.inl (show 9 ∈ ([4, 5, 9] : List Nat) by decide), rfl⟩, trivial⟩ (fun _ _ _ _ h => h) rfl ⟨⟨.inl rfl, rfl⟩, ⟨.inl rfl, mapO_names _ _⟩, ⟨.inl rfl, rfl⟩, trivial⟩ rfl
theorem k2y_at {M : PM} {hd : Nat} (hw : hd < 18446744073709551616) (hc : M.casd aO hd = true) : StepF Tryz.prog Fz0 40 42 [.ptr 9 0, .ptr 4 0] (.bool false) (mem M ++ [(9, takeO 2 hd 0 0 .nilSlice)]) (mem (M.cas aO hd (hdN (-1) (tgN hd + 1))) ++ [(9, takeO 3 hd (slI hd) 0 .nilSlice)]) id := by
  have hr := runX_sound mixed none_sound (k_2y 0 (hdN (-1) (tgN hd + 1)) 0 hd (tgN hd) (tgN hd + 1) 0 0 0 0 0 0 0 (slI hd) 0 0 M (M.cas aO hd (hdN (-1) (tgN hd + 1))) (mapO M.ms) (mapO (M.cas aO hd (hdN (-1) (tgN hd + 1))).ms) .dead .nilSlice []) ⟨fun s hs => ashead_call _ hw s hs, t3q hd, fun s hs => head_call (-1) (tgN hd + 1) (by omega) (by omega) (by have := tg_lt hd; omega) s hs, pcas_yes (b := 4) (bm := 5) (m := M) rfl rfl aO (by decide) hd (hdN (-1) (tgN hd + 1)) hc, fun s hs => ashead_call _ hw s hs, trivial⟩
  exact step_mk hr [] (kan ⟨⟨show 4 < 40 by decide, rfl, rfl, rfl⟩, ⟨show 5 < 40 by decide, rfl, mapO_names _ _, rfl⟩, ⟨show 9 < 40 by decide, rfl, rfl, rfl⟩, trivial⟩ (show ([4, 5, 9] : List Nat).Nodup by decide) (show 0 ∉ ([4, 5, 9] : List Nat) by decide)) List.nodup_nil (fun _ h => by cases h) (fun _ _ => rfl) (fun _ _ => rfl) ⟨⟨.inl (show 4 ∈ ([4, 5, 9] : List Nat) by decide), rfl⟩, ⟨.inl (show 5 ∈ ([4, 5, 9] : List Nat) by decide), by rw [mapO_ren]; rfl⟩, ⟨.inl (show 9 ∈ ([4, 5, 9] : List Nat) by decide), rfl⟩, trivial⟩ (fun _ _ _ _ h => h) rfl ⟨⟨.inl rfl, rfl⟩, ⟨.inl rfl, mapO_names _ _⟩, ⟨.inl rfl, rfl⟩, trivial⟩ rfl
theorem k2n_at {M : PM} {hd : Nat} (hw : hd < 18446744073709551616) (hc : M.casd aO hd = false) : StepF Tryz.prog Fz0 40 42 [.ptr 9 0, .ptr 4 0] (.bool false) (mem M ++ [(9, takeO 2 hd 0 0 .nilSlice)]) (mem (M.cas aO hd (hdN (-1) (tgN hd + 1))) ++ [(9, takeO 1 hd 0 0 .nilSlice)]) id := by
  have hr := runX_sound mixed none_sound (k_2n 0 (hdN (-1) (tgN hd + 1)) 0 hd (tgN hd) (tgN hd + 1) 0 0 0 0 0 0 0 (slI hd) 0 0 M (M.cas aO hd (hdN (-1) (tgN hd + 1))) (mapO M.ms) (mapO (M.cas aO hd (hdN (-1) (tgN hd + 1))).ms) .dead .nilSlice []) ⟨fun s hs => ashead_call _ hw s hs, t3q hd, fun s hs => head_call (-1) (tgN hd + 1) (by omega) (by omega) (by have := tg_lt hd; omega) s hs, pcas_no (b := 4) (bm := 5) (m := M) rfl rfl aO (by decide) hd (hdN (-1) (tgN hd + 1)) hc, trivial⟩
  exact step_mk hr [] (kan ⟨⟨show 4 < 40 by decide, rfl, rfl, rfl⟩, ⟨show 5 < 40 by decide, rfl, mapO_names _ _, rfl⟩, ⟨show 9 < 40 by decide, rfl, rfl, rfl⟩, trivial⟩ (show ([4, 5, 9] : List Nat).Nodup by decide) (show 0 ∉ ([4, 5, 9] : List Nat) by decide)) List.nodup_nil (fun _ h => by cases h) (fun _ _ => rfl) (fun _ _ => rfl) ⟨⟨.inl (show 4 ∈ ([4, 5, 9] : List Nat) by decide), rfl⟩, ⟨.inl (show 5 ∈ ([4, 5, 9] : List Nat) by decide), by rw [mapO_ren]; rfl⟩, ⟨.inl (show 9 ∈ ([4, 5, 9] : List Nat) by decide), rfl⟩, trivial⟩ (fun _ _ _ _ h => h) rfl ⟨⟨.inl rfl, rfl⟩, ⟨.inl rfl, mapO_names _ _⟩, ⟨.inl rfl, rfl⟩, trivial⟩ rfl
theorem k3_at {M : PM} {hd i : Nat} {z es : Int} (hL : Lt M) (h : hg (getW M.ms (aL z 0)) = 0) : StepF Tryz.prog Fz0 40 42 [.ptr 9 0, .ptr 4 0] (.bool false) (mem M ++ [(9, takeO 3 hd z es (gotV i))]) (mem (M.load (aL z 0)) ++ [(9, takeO 4 hd z z (gotV i))]) id := by
  cases i with
  | zero =>
    have hr := runX_sound mixed none_sound (k_3 0 0 (getW M.ms (aL z 0)) hd 0 0 (hs (getW M.ms (aL z 0))) 0 0 0 0 0 0 0 z es M (M.load (aL z 0)) (mapO M.ms) .dead .dead .nilSlice []) ⟨pload_at (b := 4) (bm := 5) (m := M) rfl rfl (aL z 0), fun s hs => phead_eq _ 0 h (hL (aL z 0)) s hs, trivial⟩
    exact step_mk hr [] (kan ⟨⟨show 4 < 40 by decide, rfl, rfl, rfl⟩, ⟨show 5 < 40 by decide, rfl, mapO_names _ _, rfl⟩, ⟨show 9 < 40 by decide, rfl, rfl, rfl⟩, trivial⟩ (show ([4, 5, 9] : List Nat).Nodup by decide) (show 0 ∉ ([4, 5, 9] : List Nat) by decide)) List.nodup_nil (fun _ h => by cases h) (fun _ _ => rfl) (fun _ _ => rfl) ⟨⟨.inl (show 4 ∈ ([4, 5, 9] : List Nat) by decide), rfl⟩, ⟨.inl (show 5 ∈ ([4, 5, 9] : List Nat) by decide), by rw [mapO_ren]; rfl⟩, ⟨.inl (show 9 ∈ ([4, 5, 9] : List Nat) by decide), rfl⟩, trivial⟩ (fun _ _ _ _ h => h) rfl ⟨⟨.inl rfl, rfl⟩, ⟨.inl rfl, mapO_names _ _⟩, ⟨.inl rfl, rfl⟩, trivial⟩ rfl
  | succ i =>
    have hr := runX_sound mixed none_sound (k_3 0 0 (getW M.ms (aL z 0)) hd 0 0 (hs (getW M.ms (aL z 0))) 0 0 0 0 0 0 0 z es M (M.load (aL z 0)) (mapO M.ms) .dead .dead (.osl 13 0 (i + 1) 6) []) ⟨pload_at (b := 4) (bm := 5) (m := M) rfl rfl (aL z 0), fun s hs => phead_eq _ 0 h (hL (aL z 0)) s hs, trivial⟩
    exact step_mk hr [] (kan ⟨⟨show 4 < 40 by decide, rfl, rfl, rfl⟩, ⟨show 5 < 40 by decide, rfl, mapO_names _ _, rfl⟩, ⟨show 9 < 40 by decide, rfl, rfl, rfl⟩, trivial⟩ (show ([4, 5, 9] : List Nat).Nodup by decide) (show 0 ∉ ([4, 5, 9] : List Nat) by decide)) List.nodup_nil (fun _ h => by cases h) (fun _ _ => rfl) (fun _ _ => rfl) ⟨⟨.inl (show 4 ∈ ([4, 5, 9] : List Nat) by decide), rfl⟩, ⟨.inl (show 5 ∈ ([4, 5, 9] : List Nat) by decide), by rw [mapO_ren]; rfl⟩, ⟨.inl (show 9 ∈ ([4, 5, 9] : List Nat) by decide), rfl⟩, trivial⟩ (fun _ _ _ _ h => h) rfl ⟨⟨.inl rfl, rfl⟩, ⟨.inl rfl, mapO_names _ _⟩, ⟨.inl rfl, rfl⟩, trivial⟩ rfl
theorem k4_at {M : PM} {hd i : Nat} {z _es : Int} (h : getW M.ms (aL z 1) = 0) : StepF Tryz.prog Fz0 40 42 [.ptr 9 0, .ptr 4 0] (.bool false) (mem M ++ [(9, takeO 4 hd z z (gotV i))]) (mem (M.load (aL z 1)) ++ [(9, takeO 5 hd z z (gotV i))]) id := by
  cases i with
  | zero =>
    have hr := runX_sound mixed none_sound (k_4 0 0 0 hd 0 0 0 0 0 0 0 0 0 0 z z M (M.load (aL z 1)) (mapO M.ms) .dead .dead .nilSlice []) ⟨pload_eq (b := 4) (bm := 5) (m := M) rfl rfl (aL z 1) 0 h, trivial⟩
    exact step_mk hr [] (kan ⟨⟨show 4 < 40 by decide, rfl, rfl, rfl⟩, ⟨show 5 < 40 by decide, rfl, mapO_names _ _, rfl⟩, ⟨show 9 < 40 by decide, rfl, rfl, rfl⟩, trivial⟩ (show ([4, 5, 9] : List Nat).Nodup by decide) (show 0 ∉ ([4, 5, 9] : List Nat) by decide)) List.nodup_nil (fun _ h => by cases h) (fun _ _ => rfl) (fun _ _ => rfl) ⟨⟨.inl (show 4 ∈ ([4, 5, 9] : List Nat) by decide), rfl⟩, ⟨.inl (show 5 ∈ ([4, 5, 9] : List Nat) by decide), by rw [mapO_ren]; rfl⟩, ⟨.inl (show 9 ∈ ([4, 5, 9] : List Nat) by decide), rfl⟩, trivial⟩ (fun _ _ _ _ h => h) rfl ⟨⟨.inl rfl, rfl⟩, ⟨.inl rfl, mapO_names _ _⟩, ⟨.inl rfl, rfl⟩, trivial⟩ rfl
  | succ i =>
    have hr := runX_sound mixed none_sound (k_4 0 0 0 hd 0 0 0 0 0 0 0 0 0 0 z z M (M.load (aL z 1)) (mapO M.ms) .dead .dead (.osl 13 0 (i + 1) 6) []) ⟨pload_eq (b := 4) (bm := 5) (m := M) rfl rfl (aL z 1) 0 h, trivial⟩
    exact step_mk hr [] (kan ⟨⟨show 4 < 40 by decide, rfl, rfl, rfl⟩, ⟨show 5 < 40 by decide, rfl, mapO_names _ _, rfl⟩, ⟨show 9 < 40 by decide, rfl, rfl, rfl⟩, trivial⟩ (show ([4, 5, 9] : List Nat).Nodup by decide) (show 0 ∉ ([4, 5, 9] : List Nat) by decide)) List.nodup_nil (fun _ h => by cases h) (fun _ _ => rfl) (fun _ _ => rfl) ⟨⟨.inl (show 4 ∈ ([4, 5, 9] : List Nat) by decide), rfl⟩, ⟨.inl (show 5 ∈ ([4, 5, 9] : List Nat) by decide), by rw [mapO_ren]; rfl⟩, ⟨.inl (show 9 ∈ ([4, 5, 9] : List Nat) by decide), rfl⟩, trivial⟩ (fun _ _ _ _ h => h) rfl ⟨⟨.inl rfl, rfl⟩, ⟨.inl rfl, mapO_names _ _⟩, ⟨.inl rfl, rfl⟩, trivial⟩ rfl
theorem k5_at {M : PM} {hd i : Nat} {z _es : Int} (h : getW M.ms (aL z 3) = 0) : StepF Tryz.prog Fz0 40 42 [.ptr 9 0, .ptr 4 0] (.bool false) (mem M ++ [(9, takeO 5 hd z z (gotV i))]) (mem (M.load (aL z 3)) ++ [(9, takeO 6 hd z z (gotV i))]) id := by
  cases i with
  | zero =>
    have hr := runX_sound mixed none_sound (k_5 0 0 0 hd 0 0 0 0 0 0 0 0 0 0 z z M (M.load (aL z 3)) (mapO M.ms) .dead .dead .nilSlice []) ⟨pload_eq (b := 4) (bm := 5) (m := M) rfl rfl (aL z 3) 0 h, trivial⟩
    exact step_mk hr [] (kan ⟨⟨show 4 < 40 by decide, rfl, rfl, rfl⟩, ⟨show 5 < 40 by decide, rfl, mapO_names _ _, rfl⟩, ⟨show 9 < 40 by decide, rfl, rfl, rfl⟩, trivial⟩ (show ([4, 5, 9] : List Nat).Nodup by decide) (show 0 ∉ ([4, 5, 9] : List Nat) by decide)) List.nodup_nil (fun _ h => by cases h) (fun _ _ => rfl) (fun _ _ => rfl) ⟨⟨.inl (show 4 ∈ ([4, 5, 9] : List Nat) by decide), rfl⟩, ⟨.inl (show 5 ∈ ([4, 5, 9] : List Nat) by decide), by rw [mapO_ren]; rfl⟩, ⟨.inl (show 9 ∈ ([4, 5, 9] : List Nat) by decide), rfl⟩, trivial⟩ (fun _ _ _ _ h => h) rfl ⟨⟨.inl rfl, rfl⟩, ⟨.inl rfl, mapO_names _ _⟩, ⟨.inl rfl, rfl⟩, trivial⟩ rfl
  | succ i =>
    have hr := runX_sound mixed none_sound (k_5 0 0 0 hd 0 0 0 0 0 0 0 0 0 0 z z M (M.load (aL z 3)) (mapO M.ms) .dead .dead (.osl 13 0 (i + 1) 6) []) ⟨pload_eq (b := 4) (bm := 5) (m := M) rfl rfl (aL z 3) 0 h, trivial⟩
    exact step_mk hr [] (kan ⟨⟨show 4 < 40 by decide, rfl, rfl, rfl⟩, ⟨show 5 < 40 by decide, rfl, mapO_names _ _, rfl⟩, ⟨show 9 < 40 by decide, rfl, rfl, rfl⟩, trivial⟩ (show ([4, 5, 9] : List Nat).Nodup by decide) (show 0 ∉ ([4, 5, 9] : List Nat) by decide)) List.nodup_nil (fun _ h => by cases h) (fun _ _ => rfl) (fun _ _ => rfl) ⟨⟨.inl (show 4 ∈ ([4, 5, 9] : List Nat) by decide), rfl⟩, ⟨.inl (show 5 ∈ ([4, 5, 9] : List Nat) by decide), by rw [mapO_ren]; rfl⟩, ⟨.inl (show 9 ∈ ([4, 5, 9] : List Nat) by decide), rfl⟩, trivial⟩ (fun _ _ _ _ h => h) rfl ⟨⟨.inl rfl, rfl⟩, ⟨.inl rfl, mapO_names _ _⟩, ⟨.inl rfl, rfl⟩, trivial⟩ rfl
theorem k6a_at {M : PM} {hd : Nat} (h : getW M.ms (aL (sl 0) 4) = 0) : StepF Tryz.prog Fz0 40 42 [.ptr 9 0, .ptr 4 0] (.bool false) (mem M ++ [(9, takeO 6 hd (sl 0) (sl 0) (gotV 0))]) (mem (M.load (aL (sl 0) 4)) ++ [(9, takeO 7 hd (sl 0) (sl 0) (gotV 1)), (13, .cells false (ents 1))]) (κ1 13 42) := by
  have hr := runX_sound mixed none_sound (k_6a 0 0 0 hd 0 0 0 0 0 0 0 0 0 0 (sl 0) (sl 0) M (M.load (aL (sl 0) 4)) (mapO M.ms) .dead .dead .nilSlice []) ⟨pload_eq (b := 4) (bm := 5) (m := M) rfl rfl (aL (sl 0) 4) 0 h, trivial⟩
  exact step_mk hr [42] (kan ⟨⟨show 4 < 40 by decide, rfl, rfl, rfl⟩, ⟨show 5 < 40 by decide, rfl, mapO_names _ _, rfl⟩, ⟨show 9 < 40 by decide, rfl, rfl, rfl⟩, trivial⟩ (show ([4, 5, 9] : List Nat).Nodup by decide) (show 0 ∉ ([4, 5, 9] : List Nat) by decide)) (show ([42] : List Nat).Nodup by decide) (fun b hb => by
      simp only [List.mem_cons, List.not_mem_nil, or_false] at hb
      rcases hb with rfl
      · exact ⟨by decide, rfl, rfl⟩) (κ_low (by decide) trivial) κ_z ⟨⟨.inl (show 4 ∈ ([4, 5, 9] : List Nat) by decide), rfl⟩, ⟨.inl (show 5 ∈ ([4, 5, 9] : List Nat) by decide), by rw [mapO_ren]; rfl⟩, ⟨.inl (show 9 ∈ ([4, 5, 9] : List Nat) by decide), rfl⟩, ⟨.inr (show 42 ∈ ([42] : List Nat) by decide), rfl⟩, trivial⟩ (show ∀ b ∈ ([4, 5, 9, 13] : List Nat), ∀ c ∈ ([4, 5, 9, 13] : List Nat), κ1 13 42 b = κ1 13 42 c → b = c by decide) rfl ⟨⟨.inl rfl, rfl⟩, ⟨.inl rfl, mapO_names _ _⟩, ⟨.inl rfl, rfl⟩, trivial⟩ rfl
theorem k6b_at {M : PM} {hd i : Nat} (hi : i < 8) (h : getW M.ms (aL (sl (i + 1)) 4) = 0) : StepF Tryz.prog Fz0 40 42 [.ptr 9 0, .ptr 4 0] (.bool false) (mem M ++ [(9, takeO 6 hd (sl (i + 1)) (sl (i + 1)) (gotV (i + 1))), (13, .cells false (ents (i + 1)))]) (mem (M.load (aL (sl (i + 1)) 4)) ++ [(9, takeO 7 hd (sl (i + 1)) (sl (i + 1)) (gotV (i + 2))), (13, .cells false (ents (i + 2)))]) (κ1 13 42) := by
  have hr := runX_sound mixed none_sound (k_6b 0 0 0 hd 0 0 0 0 0 0 0 0 (i + 1) 0 (sl (i + 1)) (sl (i + 1)) M (M.load (aL (sl (i + 1)) 4)) (mapO M.ms) .dead (.cells false (ents (i + 1))) .nilSlice (ents (i + 2))) ⟨pload_eq (b := 4) (bm := 5) (m := M) rfl rfl (aL (sl (i + 1)) 4) 0 h, app_osl rowE rfl (ents_len (i + 1)) (ents_one (i + 1)) rfl rfl rfl (by omega), trivial⟩
  exact step_mk hr [42] (kan ⟨⟨show 4 < 40 by decide, rfl, rfl, rfl⟩, ⟨show 5 < 40 by decide, rfl, mapO_names _ _, rfl⟩, ⟨show 9 < 40 by decide, rfl, rfl, rfl⟩, ⟨show 13 < 40 by decide, rfl, ents_names _ _, rfl⟩, trivial⟩ (show ([4, 5, 9, 13] : List Nat).Nodup by decide) (show 0 ∉ ([4, 5, 9, 13] : List Nat) by decide)) (show ([42] : List Nat).Nodup by decide) (fun b hb => by
      simp only [List.mem_cons, List.not_mem_nil, or_false] at hb
      rcases hb with rfl
      · exact ⟨by decide, rfl, ents_names _ _⟩) (κ_low (by decide) trivial) κ_z ⟨⟨.inl (show 4 ∈ ([4, 5, 9, 13] : List Nat) by decide), rfl⟩, ⟨.inl (show 5 ∈ ([4, 5, 9, 13] : List Nat) by decide), by rw [mapO_ren]; rfl⟩, ⟨.inl (show 9 ∈ ([4, 5, 9, 13] : List Nat) by decide), rfl⟩, ⟨.inr (show 42 ∈ ([42] : List Nat) by decide), ents_o _ _ _ _ rfl⟩, trivial⟩ (show ∀ b ∈ ([4, 5, 9, 13] : List Nat), ∀ c ∈ ([4, 5, 9, 13] : List Nat), κ1 13 42 b = κ1 13 42 c → b = c by decide) rfl ⟨⟨.inl rfl, rfl⟩, ⟨.inl rfl, mapO_names _ _⟩, ⟨.inl rfl, rfl⟩, ⟨.inr rfl, rfl⟩, trivial⟩ rfl
theorem k7n_at {M : PM} {hd i : Nat} (hL : Lt M) (hi : i < 8) (h : slI (getW M.ms (aL (sl i) 2)) = sl (i + 1)) : StepF Tryz.prog Fz0 40 42 [.ptr 9 0, .ptr 4 0] (.bool false) (mem M ++ [(9, takeO 7 hd (sl i) (sl i) (gotV (i + 1))), (13, .cells false (ents (i + 1)))]) (mem (M.load (aL (sl i) 2)) ++ [(9, takeO 3 hd (sl (i + 1)) (sl i) (gotV (i + 1))), (13, .cells false (ents (i + 1)))]) id := by
  have hr := runX_sound mixed none_sound (k_7n (getW M.ms (aL (sl i) 2)) 0 0 hd (tgN (getW M.ms (aL (sl i) 2))) 0 0 0 0 0 0 0 (i + 1) (sl (i + 1)) (sl i) (sl i) M (M.load (aL (sl i) 2)) (mapO M.ms) .dead (.cells false (ents (i + 1))) .nilSlice []) ⟨pload_at (b := 4) (bm := 5) (m := M) rfl rfl (aL (sl i) 2), fun s hs => ashead_eq _ _ h (hL (aL (sl i) 2)) s hs, by simp [Qst.ok, sl], by simp [Qst.ok]; omega, trivial⟩
  exact step_mk hr [] (kan ⟨⟨show 4 < 40 by decide, rfl, rfl, rfl⟩, ⟨show 5 < 40 by decide, rfl, mapO_names _ _, rfl⟩, ⟨show 9 < 40 by decide, rfl, rfl, rfl⟩, ⟨show 13 < 40 by decide, rfl, ents_names _ _, rfl⟩, trivial⟩ (show ([4, 5, 9, 13] : List Nat).Nodup by decide) (show 0 ∉ ([4, 5, 9, 13] : List Nat) by decide)) List.nodup_nil (fun _ h => by cases h) (fun _ _ => rfl) (fun _ _ => rfl) ⟨⟨.inl (show 4 ∈ ([4, 5, 9, 13] : List Nat) by decide), rfl⟩, ⟨.inl (show 5 ∈ ([4, 5, 9, 13] : List Nat) by decide), by rw [mapO_ren]; rfl⟩, ⟨.inl (show 9 ∈ ([4, 5, 9, 13] : List Nat) by decide), rfl⟩, ⟨.inl (show 13 ∈ ([4, 5, 9, 13] : List Nat) by decide), ents_o _ _ _ _ rfl⟩, trivial⟩ (fun _ _ _ _ h => h) rfl ⟨⟨.inl rfl, rfl⟩, ⟨.inl rfl, mapO_names _ _⟩, ⟨.inl rfl, rfl⟩, ⟨.inl rfl, ents_names _ _⟩, trivial⟩ rfl
end Go.Proofs.YtimnagafechmbaaGreatDoor.scansOrphans
namespace Go.Proofs.YtimnagafechmbaaGreatDoor.scansOrphans
open Go Go.Mini
/-! ### a Scan's steps, wherever it lies -/
def F3 (t : Nat) : AV := .iface t (.ptr 11 0)
def tLd : Nat := 170
def tAdv : Nat := 220
def tBmp : Nat := 223
def tTk : Nat := 225
def tFree : Nat := 142
def hdrV : AV := .iface 125 (.ptr 17 0)
def pshV : AV := .iface 113 (.ptr 17 0)
def freeO (z : Int) (d : AV) (line : Nat) : AObj := .cells false [.int .i64 z, d, .int .i64 (Int.ofNat line), .int .u8 (Int.ofNat 0)]
def hdrO (z : Int) (g : Nat) (rd : Bool) : AObj := .cells false [.int .i64 z, .func (.func 117) [] [.ptr 18 0], .int .u32 (Int.ofNat g), .bool rd, .int .u8 (Int.ofNat 0)]
def clO : AObj := .cells false [.int .u32 (Int.ofNat 9)]
def pshO (line w : Nat) (z : Int) : AObj := .cells false [.int .i64 (Int.ofNat line), .int .u64 (Int.ofNat w), .int .i64 z]
def XN (t m : Nat) : AObj := scanO (F3 t) 2 m .nilSlice .nilSlice .nilSlice
def XF (m a b c d : Nat) : AObj := scanO (F3 tFree) 2 m (.slice 16 0 4 4) (.slice 15 a b c) (.osl 19 0 d 3)
theorem wrap64 {x : Int} (h0 : -9223372036854775808 ≤ x) (h1 : x < 9223372036854775808) : IntKind.i64.wrap x = x := by
  simp [IntKind.wrap, IntKind.signed, IntKind.bits]
  omega
theorem add1 {k : Nat} (h : k < 100) : some (AV.int .i64 (IntKind.i64.wrap (Int.ofNat k + Int.ofNat 1))) = some (AV.int .i64 (Int.ofNat (k + 1))) := by
  rw [wrap64 (by simp; omega) (by simp; omega)]
  rfl
theorem n1m (n : Nat) : some (AV.int .u64 (Int.ofNat ((n + 1) % ((2 : Int) ^ IntKind.u64.bits).natAbs))) = some (AV.int .u64 (Int.ofNat ((n + 1) % 18446744073709551616))) := by
  rw [nat64]
theorem div8 {z : Int} (hz : 8 ≤ z ∧ z < 16) : some (AV.int .i64 (IntKind.i64.wrap (z.tdiv (Int.ofNat 8)))) = some (AV.int .i64 1) := by
  have : z.tdiv (Int.ofNat 8) = 1 := by
    rw [Int.tdiv_eq_ediv_of_nonneg (by omega)]
    simp only [Int.ofNat_eq_natCast]
    omega
  rw [this]
  rfl
theorem glN2 : ∀ {κ : Nat → Nat}, (κ 0 = 0 ∧ κ 1 = 1) → ∀ g, g < Tryz.prog.globals.size → κ g = g := fun h => κ_low h trivial
section
variable {s : AS} {M : PM} {e k : Nat} (h4 : s.get 4 = some (.cells false (M.C (.map 5)))) (h5 : s.get 5 = some (mapO M.ms)) (h0 : ∃ ro, s.get 0 = some (.cells ro wf))
include h4 h5 h0
theorem v2_call (h11 : s.get 11 = some (advO 2 e 0 0 false)) (h : getW M.ms aBl = 1) : Sound Tryz.prog (.call 219 [.ptr 11 0, .ptr 4 0] s) ⟨.ret, [.bool false], ((s.set 4 (.cells false ((M.load aBl).C (.map 5)))).set 5 (mapO M.ms)).set 11 (advO 3 e 0 4 false)⟩ := by
  have hr := runGF_ok mixed none_sound (v_2 e 0 0 M (M.load aBl) (mapO M.ms)) ⟨pload_eq (b := 4) (bm := 5) (m := M) rfl rfl aBl 1 h, trivial⟩
  have hp := Sound.putFG (P := Tryz.prog) (f := 219) (Fz := [(0, wf)]) (n0 := 4) (nx0 := 12) hr (fun b => b) (fun g hg => ⟨by rw [glN] at hg; omega, rfl⟩) [] s (fun x hx => by
      simp only [List.mem_cons, List.not_mem_nil, or_false] at hx
      subst hx
      exact ⟨show 0 < 12 by decide, show 0 ∉ [4, 5, 11] by decide, by decide, h0, show ∀ b ∈ [4, 5, 11], b ≠ 0 by decide⟩)
    ⟨⟨show 4 < 12 by decide, rfl, rfl, rfl, h4, .inl rfl, rfl⟩, ⟨show 5 < 12 by decide, rfl, mapO_names _ _, rfl, by rw [mapO_ren]; exact h5, .inl rfl, mapO_names _ _⟩, ⟨show 11 < 12 by decide, rfl, rfl, rfl, h11, .inl rfl, rfl⟩, trivial⟩
    (fun _ _ _ _ h => h) (show [4, 5, 11].Nodup by decide) List.nodup_nil (fun _ h => by cases h) rfl rfl
  change Sound Tryz.prog _ ⟨_, _, ((s.set 4 (.cells false ((M.load aBl).C (.map 5)))).set 5 ((mapO M.ms).ren _)).set 11 (advO 3 e 0 4 false)⟩ at hp
  rw [mapO_ren] at hp
  exact hp
theorem v3n_call (h11 : s.get 11 = some (advO 3 e k 4 false)) (hk : k + 1 < 4) (h : getW M.ms (aTh (Int.ofNat k) 3) = 0) : Sound Tryz.prog (.call 219 [.ptr 11 0, .ptr 4 0] s) ⟨.ret, [.bool false], ((s.set 4 (.cells false ((M.load (aTh (Int.ofNat k) 3)).C (.map 5)))).set 5 (mapO M.ms)).set 11 (advO 3 e (k + 1) 4 false)⟩ := by
  have hr := runGF_ok mixed none_sound (v_3n e k (k + 1) M (M.load (aTh (Int.ofNat k) 3)) (mapO M.ms)) ⟨pload_eq (b := 4) (bm := 5) (m := M) rfl rfl (aTh (Int.ofNat k) 3) 0 h, add1 (by omega), by simp [Qst.ok]; omega, trivial⟩
  have hp := Sound.putFG (P := Tryz.prog) (f := 219) (Fz := [(0, wf)]) (n0 := 4) (nx0 := 12) hr (fun b => b) (fun g hg => ⟨by rw [glN] at hg; omega, rfl⟩) [] s (fun x hx => by
      simp only [List.mem_cons, List.not_mem_nil, or_false] at hx
      subst hx
      exact ⟨show 0 < 12 by decide, show 0 ∉ [4, 5, 11] by decide, by decide, h0, show ∀ b ∈ [4, 5, 11], b ≠ 0 by decide⟩)
    ⟨⟨show 4 < 12 by decide, rfl, rfl, rfl, h4, .inl rfl, rfl⟩, ⟨show 5 < 12 by decide, rfl, mapO_names _ _, rfl, by rw [mapO_ren]; exact h5, .inl rfl, mapO_names _ _⟩, ⟨show 11 < 12 by decide, rfl, rfl, rfl, h11, .inl rfl, rfl⟩, trivial⟩
    (fun _ _ _ _ h => h) (show [4, 5, 11].Nodup by decide) List.nodup_nil (fun _ h => by cases h) rfl rfl
  change Sound Tryz.prog _ ⟨_, _, ((s.set 4 (.cells false ((M.load (aTh (Int.ofNat k) 3)).C (.map 5)))).set 5 ((mapO M.ms).ren _)).set 11 (advO 3 e (k + 1) 4 false)⟩ at hp
  rw [mapO_ren] at hp
  exact hp
theorem v3y_call (h11 : s.get 11 = some (advO 3 e k 4 false)) (hk : k + 1 = 4) (h : getW M.ms (aTh (Int.ofNat k) 3) = 0) : Sound Tryz.prog (.call 219 [.ptr 11 0, .ptr 4 0] s) ⟨.ret, [.bool false], ((s.set 4 (.cells false ((M.load (aTh (Int.ofNat k) 3)).C (.map 5)))).set 5 (mapO M.ms)).set 11 (advO 4 e (k + 1) 4 false)⟩ := by
  have hr := runGF_ok mixed none_sound (v_3y e k (k + 1) M (M.load (aTh (Int.ofNat k) 3)) (mapO M.ms)) ⟨pload_eq (b := 4) (bm := 5) (m := M) rfl rfl (aTh (Int.ofNat k) 3) 0 h, add1 (by omega), by simp [Qst.ok]; omega, trivial⟩
  have hp := Sound.putFG (P := Tryz.prog) (f := 219) (Fz := [(0, wf)]) (n0 := 4) (nx0 := 12) hr (fun b => b) (fun g hg => ⟨by rw [glN] at hg; omega, rfl⟩) [] s (fun x hx => by
      simp only [List.mem_cons, List.not_mem_nil, or_false] at hx
      subst hx
      exact ⟨show 0 < 12 by decide, show 0 ∉ [4, 5, 11] by decide, by decide, h0, show ∀ b ∈ [4, 5, 11], b ≠ 0 by decide⟩)
    ⟨⟨show 4 < 12 by decide, rfl, rfl, rfl, h4, .inl rfl, rfl⟩, ⟨show 5 < 12 by decide, rfl, mapO_names _ _, rfl, by rw [mapO_ren]; exact h5, .inl rfl, mapO_names _ _⟩, ⟨show 11 < 12 by decide, rfl, rfl, rfl, h11, .inl rfl, rfl⟩, trivial⟩
    (fun _ _ _ _ h => h) (show [4, 5, 11].Nodup by decide) List.nodup_nil (fun _ h => by cases h) rfl rfl
  change Sound Tryz.prog _ ⟨_, _, ((s.set 4 (.cells false ((M.load (aTh (Int.ofNat k) 3)).C (.map 5)))).set 5 ((mapO M.ms).ren _)).set 11 (advO 4 e (k + 1) 4 false)⟩ at hp
  rw [mapO_ren] at hp
  exact hp
end
set_option maxRecDepth 100000 in
theorem s0_atz {M : PM} {_m : Nat} {th : Nat} (h : getW M.ms aPh = 16) : StepF Tryz.prog Fz0 40 41 [.ptr 10 0, .ptr 4 0] (.bool false) (mem M ++ [(7, guardO th), (8, listO 0), (10, scanO (F3 tLd) 0 0 .nilSlice .nilSlice .nilSlice), (11, ldO 3 0)]) (mem (M.load aPh) ++ [(7, guardO th), (8, listO 0), (10, XN tAdv 0), (11, advO 1 0 0 0 false)]) (κ1 11 42) := by
  have hr := runX_sound mixed none_sound (s_0 0 0 0 0 0 0 0 0 0 0 2 0 th 0 0 0 0 0 false false 0 0 0 M (M.load aPh) (mapO M.ms) .dead .dead .dead .nilSlice .nilSlice .nilSlice .nilSlice .nilMap) ⟨pload_eq (b := 4) (bm := 5) (m := M) rfl rfl aPh 16 h, rfl, trivial⟩
  exact step_mk hr [42] (kan ⟨⟨show 4 < 40 by decide, rfl, rfl, rfl⟩, ⟨show 5 < 40 by decide, rfl, mapO_names _ _, rfl⟩, ⟨show 7 < 40 by decide, rfl, rfl, rfl⟩, ⟨show 8 < 40 by decide, rfl, rfl, rfl⟩, ⟨show 10 < 40 by decide, rfl, rfl, rfl⟩, ⟨show 11 < 40 by decide, rfl, rfl, rfl⟩, trivial⟩ (show ([4, 5, 7, 8, 10, 11] : List Nat).Nodup by decide) (show 0 ∉ ([4, 5, 7, 8, 10, 11] : List Nat) by decide)) (show ([42] : List Nat).Nodup by decide) (fun b hb => by
      simp only [List.mem_cons, List.not_mem_nil, or_false] at hb
      rcases hb with rfl
      · exact ⟨by decide, rfl, rfl⟩) (glN2 (by decide)) κ_z ⟨⟨.inl (show 4 ∈ ([4, 5, 7, 8, 10, 11] : List Nat) by decide), rfl⟩, ⟨.inl (show 5 ∈ ([4, 5, 7, 8, 10, 11] : List Nat) by decide), by rw [mapO_ren]; rfl⟩, ⟨.inl (show 7 ∈ ([4, 5, 7, 8, 10, 11] : List Nat) by decide), rfl⟩, ⟨.inl (show 8 ∈ ([4, 5, 7, 8, 10, 11] : List Nat) by decide), rfl⟩, ⟨.inl (show 10 ∈ ([4, 5, 7, 8, 10, 11] : List Nat) by decide), rfl⟩, ⟨.inr (show 42 ∈ ([42] : List Nat) by decide), rfl⟩, trivial⟩ (show ∀ b ∈ ([4, 5, 7, 8, 10, 11] : List Nat), ∀ c ∈ ([4, 5, 7, 8, 10, 11] : List Nat), κ1 11 42 b = κ1 11 42 c → b = c by decide) rfl ⟨⟨.inl rfl, rfl⟩, ⟨.inl rfl, mapO_names _ _⟩, ⟨.inl rfl, rfl⟩, ⟨.inl rfl, rfl⟩, ⟨.inl rfl, rfl⟩, ⟨.inl rfl, rfl⟩, trivial⟩ rfl
set_option maxRecDepth 100000 in
theorem s0_ats {M : PM} {m : Nat} {th : Nat} (h : getW M.ms aPh = 16) : StepF Tryz.prog Fz0 40 41 [.ptr 10 0, .ptr 4 0] (.bool false) (mem M ++ [(7, guardO th), (8, listO (m + 1)), (10, scanO (F3 tLd) 0 0 .nilSlice .nilSlice .nilSlice), (11, ldO 3 0)]) (mem (M.load aPh) ++ [(7, guardO th), (8, listO (m + 1)), (10, XN tAdv (m + 1)), (11, advO 1 0 0 0 false)]) (κ1 11 42) := by
  have hr := runX_sound mixed none_sound (s_0 0 0 0 0 0 0 0 0 0 0 2 (m + 1) th 0 0 0 0 0 false false 0 0 0 M (M.load aPh) (mapO M.ms) .dead .dead .dead .nilSlice .nilSlice .nilSlice (.osl 13 0 (m + 1) 6) (.map 12)) ⟨pload_eq (b := 4) (bm := 5) (m := M) rfl rfl aPh 16 h, rfl, trivial⟩
  exact step_mk hr [42] (kan ⟨⟨show 4 < 40 by decide, rfl, rfl, rfl⟩, ⟨show 5 < 40 by decide, rfl, mapO_names _ _, rfl⟩, ⟨show 7 < 40 by decide, rfl, rfl, rfl⟩, ⟨show 8 < 40 by decide, rfl, rfl, rfl⟩, ⟨show 10 < 40 by decide, rfl, rfl, rfl⟩, ⟨show 11 < 40 by decide, rfl, rfl, rfl⟩, trivial⟩ (show ([4, 5, 7, 8, 10, 11] : List Nat).Nodup by decide) (show 0 ∉ ([4, 5, 7, 8, 10, 11] : List Nat) by decide)) (show ([42] : List Nat).Nodup by decide) (fun b hb => by
      simp only [List.mem_cons, List.not_mem_nil, or_false] at hb
      rcases hb with rfl
      · exact ⟨by decide, rfl, rfl⟩) (glN2 (by decide)) κ_z ⟨⟨.inl (show 4 ∈ ([4, 5, 7, 8, 10, 11] : List Nat) by decide), rfl⟩, ⟨.inl (show 5 ∈ ([4, 5, 7, 8, 10, 11] : List Nat) by decide), by rw [mapO_ren]; rfl⟩, ⟨.inl (show 7 ∈ ([4, 5, 7, 8, 10, 11] : List Nat) by decide), rfl⟩, ⟨.inl (show 8 ∈ ([4, 5, 7, 8, 10, 11] : List Nat) by decide), rfl⟩, ⟨.inl (show 10 ∈ ([4, 5, 7, 8, 10, 11] : List Nat) by decide), rfl⟩, ⟨.inr (show 42 ∈ ([42] : List Nat) by decide), rfl⟩, trivial⟩ (show ∀ b ∈ ([4, 5, 7, 8, 10, 11] : List Nat), ∀ c ∈ ([4, 5, 7, 8, 10, 11] : List Nat), κ1 11 42 b = κ1 11 42 c → b = c by decide) rfl ⟨⟨.inl rfl, rfl⟩, ⟨.inl rfl, mapO_names _ _⟩, ⟨.inl rfl, rfl⟩, ⟨.inl rfl, rfl⟩, ⟨.inl rfl, rfl⟩, ⟨.inl rfl, rfl⟩, trivial⟩ rfl
set_option maxRecDepth 100000 in
theorem a1_at {M : PM} {m : Nat}  : StepF Tryz.prog Fz0 40 41 [.ptr 10 0, .ptr 4 0] (.bool false) (mem M ++ [(10, XN tAdv m), (11, advO 1 0 0 0 false)]) (mem (M.load aEp) ++ [(10, XN tAdv m), (11, advO 2 (getW M.ms aEp) 0 0 false)]) id := by
  have hr := runX_sound mixed none_sound (s_a1 0 0 0 0 0 0 0 0 0 0 2 m 0 (getW M.ms aEp) 0 0 0 0 false false 0 0 0 M (M.load aEp) (mapO M.ms) .dead .dead .dead .nilSlice .nilSlice .nilSlice .nilSlice .nilMap) ⟨pload_at (b := 4) (bm := 5) (m := M) rfl rfl aEp, trivial⟩
  exact step_mk hr [] (kan ⟨⟨show 4 < 40 by decide, rfl, rfl, rfl⟩, ⟨show 5 < 40 by decide, rfl, mapO_names _ _, rfl⟩, ⟨show 10 < 40 by decide, rfl, rfl, rfl⟩, ⟨show 11 < 40 by decide, rfl, rfl, rfl⟩, trivial⟩ (show ([4, 5, 10, 11] : List Nat).Nodup by decide) (show 0 ∉ ([4, 5, 10, 11] : List Nat) by decide)) List.nodup_nil (fun _ h => by cases h) (fun _ _ => rfl) (fun _ _ => rfl) ⟨⟨.inl (show 4 ∈ ([4, 5, 10, 11] : List Nat) by decide), rfl⟩, ⟨.inl (show 5 ∈ ([4, 5, 10, 11] : List Nat) by decide), by rw [mapO_ren]; rfl⟩, ⟨.inl (show 10 ∈ ([4, 5, 10, 11] : List Nat) by decide), rfl⟩, ⟨.inl (show 11 ∈ ([4, 5, 10, 11] : List Nat) by decide), rfl⟩, trivial⟩ (fun _ _ _ _ h => h) rfl ⟨⟨.inl rfl, rfl⟩, ⟨.inl rfl, mapO_names _ _⟩, ⟨.inl rfl, rfl⟩, ⟨.inl rfl, rfl⟩, trivial⟩ rfl
set_option maxRecDepth 100000 in
theorem a2_at {M : PM} {m : Nat} {e : Nat} (h : getW M.ms aBl = 1) : StepF Tryz.prog Fz0 40 41 [.ptr 10 0, .ptr 4 0] (.bool false) (mem M ++ [(10, XN tAdv m), (11, advO 2 e 0 0 false)]) (mem (M.load aBl) ++ [(10, XN tAdv m), (11, advO 3 e 0 4 false)]) id := by
  have hr := runX_sound mixed none_sound (s_a2 0 0 0 0 0 0 0 0 0 0 2 m 0 e 0 0 0 0 false false 0 0 0 M (M.load aBl) (mapO M.ms) .dead (advO 2 e 0 0 false) (advO 3 e 0 4 false) .nilSlice .nilSlice .nilSlice .nilSlice .nilMap) ⟨v2_call rfl rfl ⟨_, rfl⟩ rfl h, trivial⟩
  exact step_mk hr [] (kan ⟨⟨show 4 < 40 by decide, rfl, rfl, rfl⟩, ⟨show 5 < 40 by decide, rfl, mapO_names _ _, rfl⟩, ⟨show 10 < 40 by decide, rfl, rfl, rfl⟩, ⟨show 11 < 40 by decide, rfl, rfl, rfl⟩, trivial⟩ (show ([4, 5, 10, 11] : List Nat).Nodup by decide) (show 0 ∉ ([4, 5, 10, 11] : List Nat) by decide)) List.nodup_nil (fun _ h => by cases h) (fun _ _ => rfl) (fun _ _ => rfl) ⟨⟨.inl (show 4 ∈ ([4, 5, 10, 11] : List Nat) by decide), rfl⟩, ⟨.inl (show 5 ∈ ([4, 5, 10, 11] : List Nat) by decide), by rw [mapO_ren]; rfl⟩, ⟨.inl (show 10 ∈ ([4, 5, 10, 11] : List Nat) by decide), rfl⟩, ⟨.inl (show 11 ∈ ([4, 5, 10, 11] : List Nat) by decide), rfl⟩, trivial⟩ (fun _ _ _ _ h => h) rfl ⟨⟨.inl rfl, rfl⟩, ⟨.inl rfl, mapO_names _ _⟩, ⟨.inl rfl, rfl⟩, ⟨.inl rfl, rfl⟩, trivial⟩ rfl
set_option maxRecDepth 100000 in
theorem a3n_at {M : PM} {m : Nat} {e k : Nat} (hk : k + 1 < 4) (h : getW M.ms (aTh (Int.ofNat k) 3) = 0) : StepF Tryz.prog Fz0 40 41 [.ptr 10 0, .ptr 4 0] (.bool false) (mem M ++ [(10, XN tAdv m), (11, advO 3 e k 4 false)]) (mem (M.load (aTh (Int.ofNat k) 3)) ++ [(10, XN tAdv m), (11, advO 3 e (k + 1) 4 false)]) id := by
  have hr := runX_sound mixed none_sound (s_a2 0 0 0 0 0 0 0 0 0 0 2 m 0 e 0 0 0 0 false false 0 0 0 M (M.load (aTh (Int.ofNat k) 3)) (mapO M.ms) .dead (advO 3 e k 4 false) (advO 3 e (k + 1) 4 false) .nilSlice .nilSlice .nilSlice .nilSlice .nilMap) ⟨v3n_call rfl rfl ⟨_, rfl⟩ rfl hk h, trivial⟩
  exact step_mk hr [] (kan ⟨⟨show 4 < 40 by decide, rfl, rfl, rfl⟩, ⟨show 5 < 40 by decide, rfl, mapO_names _ _, rfl⟩, ⟨show 10 < 40 by decide, rfl, rfl, rfl⟩, ⟨show 11 < 40 by decide, rfl, rfl, rfl⟩, trivial⟩ (show ([4, 5, 10, 11] : List Nat).Nodup by decide) (show 0 ∉ ([4, 5, 10, 11] : List Nat) by decide)) List.nodup_nil (fun _ h => by cases h) (fun _ _ => rfl) (fun _ _ => rfl) ⟨⟨.inl (show 4 ∈ ([4, 5, 10, 11] : List Nat) by decide), rfl⟩, ⟨.inl (show 5 ∈ ([4, 5, 10, 11] : List Nat) by decide), by rw [mapO_ren]; rfl⟩, ⟨.inl (show 10 ∈ ([4, 5, 10, 11] : List Nat) by decide), rfl⟩, ⟨.inl (show 11 ∈ ([4, 5, 10, 11] : List Nat) by decide), rfl⟩, trivial⟩ (fun _ _ _ _ h => h) rfl ⟨⟨.inl rfl, rfl⟩, ⟨.inl rfl, mapO_names _ _⟩, ⟨.inl rfl, rfl⟩, ⟨.inl rfl, rfl⟩, trivial⟩ rfl
set_option maxRecDepth 100000 in
theorem a3y_at {M : PM} {m : Nat} {e k : Nat} (hk : k + 1 = 4) (h : getW M.ms (aTh (Int.ofNat k) 3) = 0) : StepF Tryz.prog Fz0 40 41 [.ptr 10 0, .ptr 4 0] (.bool false) (mem M ++ [(10, XN tAdv m), (11, advO 3 e k 4 false)]) (mem (M.load (aTh (Int.ofNat k) 3)) ++ [(10, XN tAdv m), (11, advO 4 e (k + 1) 4 false)]) id := by
  have hr := runX_sound mixed none_sound (s_a2 0 0 0 0 0 0 0 0 0 0 2 m 0 e 0 0 0 0 false false 0 0 0 M (M.load (aTh (Int.ofNat k) 3)) (mapO M.ms) .dead (advO 3 e k 4 false) (advO 4 e (k + 1) 4 false) .nilSlice .nilSlice .nilSlice .nilSlice .nilMap) ⟨v3y_call rfl rfl ⟨_, rfl⟩ rfl hk h, trivial⟩
  exact step_mk hr [] (kan ⟨⟨show 4 < 40 by decide, rfl, rfl, rfl⟩, ⟨show 5 < 40 by decide, rfl, mapO_names _ _, rfl⟩, ⟨show 10 < 40 by decide, rfl, rfl, rfl⟩, ⟨show 11 < 40 by decide, rfl, rfl, rfl⟩, trivial⟩ (show ([4, 5, 10, 11] : List Nat).Nodup by decide) (show 0 ∉ ([4, 5, 10, 11] : List Nat) by decide)) List.nodup_nil (fun _ h => by cases h) (fun _ _ => rfl) (fun _ _ => rfl) ⟨⟨.inl (show 4 ∈ ([4, 5, 10, 11] : List Nat) by decide), rfl⟩, ⟨.inl (show 5 ∈ ([4, 5, 10, 11] : List Nat) by decide), by rw [mapO_ren]; rfl⟩, ⟨.inl (show 10 ∈ ([4, 5, 10, 11] : List Nat) by decide), rfl⟩, ⟨.inl (show 11 ∈ ([4, 5, 10, 11] : List Nat) by decide), rfl⟩, trivial⟩ (fun _ _ _ _ h => h) rfl ⟨⟨.inl rfl, rfl⟩, ⟨.inl rfl, mapO_names _ _⟩, ⟨.inl rfl, rfl⟩, ⟨.inl rfl, rfl⟩, trivial⟩ rfl
set_option maxRecDepth 100000 in
theorem a4_at {M : PM} {m : Nat} {e : Nat} : StepF Tryz.prog Fz0 40 41 [.ptr 10 0, .ptr 4 0] (.bool false) (mem M ++ [(10, XN tAdv m), (11, advO 4 e 4 4 false)]) (mem (M.cas aEp e ((e + 1) % 18446744073709551616)) ++ [(10, XN tBmp m), (11, bmpO 2 0)]) (κ1 11 41) := by
  have hr := runX_sound mixed none_sound (s_a4 0 0 0 0 0 0 0 0 0 0 2 m 0 e ((e + 1) % 18446744073709551616) 0 0 0 (M.casd aEp e) false 0 0 0 M (M.cas aEp e ((e + 1) % 18446744073709551616)) (mapO M.ms) (mapO (M.cas aEp e ((e + 1) % 18446744073709551616)).ms) .dead .dead .nilSlice .nilSlice .nilSlice .nilSlice .nilMap) ⟨n1m e, pcas_at (b := 4) (bm := 5) (m := M) rfl rfl aEp (by decide) e ((e + 1) % 18446744073709551616), trivial⟩
  exact step_mk hr [41] (kan ⟨⟨show 4 < 40 by decide, rfl, rfl, rfl⟩, ⟨show 5 < 40 by decide, rfl, mapO_names _ _, rfl⟩, ⟨show 10 < 40 by decide, rfl, rfl, rfl⟩, ⟨show 11 < 40 by decide, rfl, rfl, rfl⟩, trivial⟩ (show ([4, 5, 10, 11] : List Nat).Nodup by decide) (show 0 ∉ ([4, 5, 10, 11] : List Nat) by decide)) (show ([41] : List Nat).Nodup by decide) (fun b hb => by
      simp only [List.mem_cons, List.not_mem_nil, or_false] at hb
      rcases hb with rfl
      · exact ⟨by decide, rfl, rfl⟩) (glN2 (by decide)) κ_z ⟨⟨.inl (show 4 ∈ ([4, 5, 10, 11] : List Nat) by decide), rfl⟩, ⟨.inl (show 5 ∈ ([4, 5, 10, 11] : List Nat) by decide), by rw [mapO_ren]; rfl⟩, ⟨.inl (show 10 ∈ ([4, 5, 10, 11] : List Nat) by decide), rfl⟩, ⟨.inr (show 41 ∈ ([41] : List Nat) by decide), rfl⟩, trivial⟩ (show ∀ b ∈ ([4, 5, 10, 11] : List Nat), ∀ c ∈ ([4, 5, 10, 11] : List Nat), κ1 11 41 b = κ1 11 41 c → b = c by decide) rfl ⟨⟨.inl rfl, rfl⟩, ⟨.inl rfl, mapO_names _ _⟩, ⟨.inl rfl, rfl⟩, ⟨.inl rfl, rfl⟩, trivial⟩ rfl
set_option maxRecDepth 100000 in
theorem b1_at {M : PM} {m : Nat}  : StepF Tryz.prog Fz0 40 41 [.ptr 10 0, .ptr 4 0] (.bool false) (mem M ++ [(10, XN tBmp m), (11, bmpO 2 0)]) (mem (M.load aEra) ++ [(10, XN tBmp m), (11, bmpO 1 (getW M.ms aEra))]) id := by
  have hr := runX_sound mixed none_sound (s_b1 0 0 0 0 0 0 0 0 0 0 2 m 0 (getW M.ms aEra) 0 0 0 0 false false 0 0 0 M (M.load aEra) (mapO M.ms) .dead .dead .dead .nilSlice .nilSlice .nilSlice .nilSlice .nilMap) ⟨pload_at (b := 4) (bm := 5) (m := M) rfl rfl aEra, trivial⟩
  exact step_mk hr [] (kan ⟨⟨show 4 < 40 by decide, rfl, rfl, rfl⟩, ⟨show 5 < 40 by decide, rfl, mapO_names _ _, rfl⟩, ⟨show 10 < 40 by decide, rfl, rfl, rfl⟩, ⟨show 11 < 40 by decide, rfl, rfl, rfl⟩, trivial⟩ (show ([4, 5, 10, 11] : List Nat).Nodup by decide) (show 0 ∉ ([4, 5, 10, 11] : List Nat) by decide)) List.nodup_nil (fun _ h => by cases h) (fun _ _ => rfl) (fun _ _ => rfl) ⟨⟨.inl (show 4 ∈ ([4, 5, 10, 11] : List Nat) by decide), rfl⟩, ⟨.inl (show 5 ∈ ([4, 5, 10, 11] : List Nat) by decide), by rw [mapO_ren]; rfl⟩, ⟨.inl (show 10 ∈ ([4, 5, 10, 11] : List Nat) by decide), rfl⟩, ⟨.inl (show 11 ∈ ([4, 5, 10, 11] : List Nat) by decide), rfl⟩, trivial⟩ (fun _ _ _ _ h => h) rfl ⟨⟨.inl rfl, rfl⟩, ⟨.inl rfl, mapO_names _ _⟩, ⟨.inl rfl, rfl⟩, ⟨.inl rfl, rfl⟩, trivial⟩ rfl
set_option maxRecDepth 100000 in
theorem b2_at {M : PM} {m : Nat} {e : Nat} : StepF Tryz.prog Fz0 40 41 [.ptr 10 0, .ptr 4 0] (.bool false) (mem M ++ [(10, XN tBmp m), (11, bmpO 1 e)]) (mem (M.cas aEra e ((e + 1) % 18446744073709551616)) ++ [(10, XN tTk m), (11, tkO 163 .nilSlice 0 0 0)]) (κ1 11 41) := by
  have hr := runX_sound mixed none_sound (s_b2 0 0 0 0 0 0 0 0 0 0 2 m 0 e ((e + 1) % 18446744073709551616) 0 0 0 (M.casd aEra e) false 0 0 0 M (M.cas aEra e ((e + 1) % 18446744073709551616)) (mapO M.ms) (mapO (M.cas aEra e ((e + 1) % 18446744073709551616)).ms) .dead .dead .nilSlice .nilSlice .nilSlice .nilSlice .nilMap) ⟨n1m e, pcas_at (b := 4) (bm := 5) (m := M) rfl rfl aEra (by decide) e ((e + 1) % 18446744073709551616), trivial⟩
  exact step_mk hr [41] (kan ⟨⟨show 4 < 40 by decide, rfl, rfl, rfl⟩, ⟨show 5 < 40 by decide, rfl, mapO_names _ _, rfl⟩, ⟨show 10 < 40 by decide, rfl, rfl, rfl⟩, ⟨show 11 < 40 by decide, rfl, rfl, rfl⟩, trivial⟩ (show ([4, 5, 10, 11] : List Nat).Nodup by decide) (show 0 ∉ ([4, 5, 10, 11] : List Nat) by decide)) (show ([41] : List Nat).Nodup by decide) (fun b hb => by
      simp only [List.mem_cons, List.not_mem_nil, or_false] at hb
      rcases hb with rfl
      · exact ⟨by decide, rfl, rfl⟩) (glN2 (by decide)) κ_z ⟨⟨.inl (show 4 ∈ ([4, 5, 10, 11] : List Nat) by decide), rfl⟩, ⟨.inl (show 5 ∈ ([4, 5, 10, 11] : List Nat) by decide), by rw [mapO_ren]; rfl⟩, ⟨.inl (show 10 ∈ ([4, 5, 10, 11] : List Nat) by decide), rfl⟩, ⟨.inr (show 41 ∈ ([41] : List Nat) by decide), rfl⟩, trivial⟩ (show ∀ b ∈ ([4, 5, 10, 11] : List Nat), ∀ c ∈ ([4, 5, 10, 11] : List Nat), κ1 11 41 b = κ1 11 41 c → b = c by decide) rfl ⟨⟨.inl rfl, rfl⟩, ⟨.inl rfl, mapO_names _ _⟩, ⟨.inl rfl, rfl⟩, ⟨.inl rfl, rfl⟩, trivial⟩ rfl
set_option maxRecDepth 100000 in
theorem k1_at {M : PM} {m : Nat} (h : getW M.ms aBl = 1) : StepF Tryz.prog Fz0 40 41 [.ptr 10 0, .ptr 4 0] (.bool false) (mem M ++ [(10, XN tTk m), (11, tkO 163 .nilSlice 0 0 0)]) (mem (M.load aBl) ++ [(10, XN tTk m), (11, tkO 174 (.slice 14 0 4 4) 0 0 4), (14, .cells false (ownRow 0 4))]) (κ1 14 40) := by
  have hr := runX_sound mixed none_sound (s_k1 0 0 0 0 0 0 0 0 0 0 2 m 0 0 0 0 0 0 false false 0 0 0 M (M.load aBl) (mapO M.ms) .dead .dead .dead .nilSlice .nilSlice .nilSlice .nilSlice .nilMap) ⟨pload_eq (b := 4) (bm := 5) (m := M) rfl rfl aBl 1 h, trivial⟩
  exact step_mk hr [40] (kan ⟨⟨show 4 < 40 by decide, rfl, rfl, rfl⟩, ⟨show 5 < 40 by decide, rfl, mapO_names _ _, rfl⟩, ⟨show 10 < 40 by decide, rfl, rfl, rfl⟩, ⟨show 11 < 40 by decide, rfl, rfl, rfl⟩, trivial⟩ (show ([4, 5, 10, 11] : List Nat).Nodup by decide) (show 0 ∉ ([4, 5, 10, 11] : List Nat) by decide)) (show ([40] : List Nat).Nodup by decide) (fun b hb => by
      simp only [List.mem_cons, List.not_mem_nil, or_false] at hb
      rcases hb with rfl
      · exact ⟨by decide, rfl, rfl⟩) (glN2 (by decide)) κ_z ⟨⟨.inl (show 4 ∈ ([4, 5, 10, 11] : List Nat) by decide), rfl⟩, ⟨.inl (show 5 ∈ ([4, 5, 10, 11] : List Nat) by decide), by rw [mapO_ren]; rfl⟩, ⟨.inl (show 10 ∈ ([4, 5, 10, 11] : List Nat) by decide), rfl⟩, ⟨.inl (show 11 ∈ ([4, 5, 10, 11] : List Nat) by decide), rfl⟩, ⟨.inr (show 40 ∈ ([40] : List Nat) by decide), rfl⟩, trivial⟩ (show ∀ b ∈ ([4, 5, 10, 11, 14] : List Nat), ∀ c ∈ ([4, 5, 10, 11, 14] : List Nat), κ1 14 40 b = κ1 14 40 c → b = c by decide) rfl ⟨⟨.inl rfl, rfl⟩, ⟨.inl rfl, mapO_names _ _⟩, ⟨.inl rfl, rfl⟩, ⟨.inl rfl, rfl⟩, trivial⟩ rfl
set_option maxRecDepth 100000 in
theorem f1_at {M : PM} {m : Nat} {a b c d : Nat} {z : Int} (hL : Lt M) (h : hg (getW M.ms (aL z 0)) = 0) : StepF Tryz.prog Fz0 40 41 [.ptr 10 0, .ptr 4 0] (.bool false) (mem M ++ [(10, XF m a b c d), (11, freeO z hdrV 1), (17, hdrO z 0 false), (18, clO)]) (mem (M.load (aL z 0)) ++ [(10, XF m a b c d), (11, freeO z hdrV 1), (17, hdrO z 0 true), (18, clO)]) id := by
  have hr := runX_sound mixed none_sound (s_f1 0 0 0 (getW M.ms (aL z 0)) 0 0 0 (hs (getW M.ms (aL z 0))) 0 0 2 m 0 0 0 0 0 0 false false z 0 0 M (M.load (aL z 0)) (mapO M.ms) .dead .dead .dead (.slice 16 0 4 4) (.slice 15 a b c) (.osl 19 0 d 3) .nilSlice .nilMap) ⟨pload_at (b := 4) (bm := 5) (m := M) rfl rfl (aL z 0), fun s hs => phead_eq _ 0 h (hL (aL z 0)) s hs, trivial⟩
  exact step_mk hr [] (kan ⟨⟨show 4 < 40 by decide, rfl, rfl, rfl⟩, ⟨show 5 < 40 by decide, rfl, mapO_names _ _, rfl⟩, ⟨show 10 < 40 by decide, rfl, rfl, rfl⟩, ⟨show 11 < 40 by decide, rfl, rfl, rfl⟩, ⟨show 17 < 40 by decide, rfl, rfl, rfl⟩, ⟨show 18 < 40 by decide, rfl, rfl, rfl⟩, trivial⟩ (show ([4, 5, 10, 11, 17, 18] : List Nat).Nodup by decide) (show 0 ∉ ([4, 5, 10, 11, 17, 18] : List Nat) by decide)) List.nodup_nil (fun _ h => by cases h) (fun _ _ => rfl) (fun _ _ => rfl) ⟨⟨.inl (show 4 ∈ ([4, 5, 10, 11, 17, 18] : List Nat) by decide), rfl⟩, ⟨.inl (show 5 ∈ ([4, 5, 10, 11, 17, 18] : List Nat) by decide), by rw [mapO_ren]; rfl⟩, ⟨.inl (show 10 ∈ ([4, 5, 10, 11, 17, 18] : List Nat) by decide), rfl⟩, ⟨.inl (show 11 ∈ ([4, 5, 10, 11, 17, 18] : List Nat) by decide), rfl⟩, ⟨.inl (show 17 ∈ ([4, 5, 10, 11, 17, 18] : List Nat) by decide), rfl⟩, ⟨.inl (show 18 ∈ ([4, 5, 10, 11, 17, 18] : List Nat) by decide), rfl⟩, trivial⟩ (fun _ _ _ _ h => h) rfl ⟨⟨.inl rfl, rfl⟩, ⟨.inl rfl, mapO_names _ _⟩, ⟨.inl rfl, rfl⟩, ⟨.inl rfl, rfl⟩, ⟨.inl rfl, rfl⟩, ⟨.inl rfl, rfl⟩, trivial⟩ rfl
set_option maxRecDepth 100000 in
theorem f2_at {M : PM} {m : Nat} {a b c d : Nat} {z : Int} : StepF Tryz.prog Fz0 40 41 [.ptr 10 0, .ptr 4 0] (.bool false) (mem M ++ [(10, XF m a b c d), (11, freeO z hdrV 1), (17, hdrO z 0 true), (18, clO)]) (mem (M.store (aL z 0) (mkw 0 1)) ++ [(10, XF m a b c d), (11, freeO z hdrV 2), (17, hdrO z 1 true), (18, clO)]) id := by
  have hr := runX_sound mixed none_sound (s_f2 0 0 0 0 (mkw 0 1) 0 0 0 0 1 2 m 0 0 0 0 0 0 false false z 0 0 M (M.store (aL z 0) (mkw 0 1)) (mapO M.ms) (mapO (M.store (aL z 0) (mkw 0 1)).ms) .dead .dead (.slice 16 0 4 4) (.slice 15 a b c) (.osl 19 0 d 3) .nilSlice .nilMap) ⟨by simp [Qst.ok], rfl, fun s hs => header_call 0 1 (by omega) (by omega) s hs, pstore_at (b := 4) (bm := 5) (m := M) rfl rfl (aL z 0) (show (0 : Int) ≤ 9 by decide) (mkw 0 1), trivial⟩
  exact step_mk hr [] (kan ⟨⟨show 4 < 40 by decide, rfl, rfl, rfl⟩, ⟨show 5 < 40 by decide, rfl, mapO_names _ _, rfl⟩, ⟨show 10 < 40 by decide, rfl, rfl, rfl⟩, ⟨show 11 < 40 by decide, rfl, rfl, rfl⟩, ⟨show 17 < 40 by decide, rfl, rfl, rfl⟩, ⟨show 18 < 40 by decide, rfl, rfl, rfl⟩, trivial⟩ (show ([4, 5, 10, 11, 17, 18] : List Nat).Nodup by decide) (show 0 ∉ ([4, 5, 10, 11, 17, 18] : List Nat) by decide)) List.nodup_nil (fun _ h => by cases h) (fun _ _ => rfl) (fun _ _ => rfl) ⟨⟨.inl (show 4 ∈ ([4, 5, 10, 11, 17, 18] : List Nat) by decide), rfl⟩, ⟨.inl (show 5 ∈ ([4, 5, 10, 11, 17, 18] : List Nat) by decide), by rw [mapO_ren]; rfl⟩, ⟨.inl (show 10 ∈ ([4, 5, 10, 11, 17, 18] : List Nat) by decide), rfl⟩, ⟨.inl (show 11 ∈ ([4, 5, 10, 11, 17, 18] : List Nat) by decide), rfl⟩, ⟨.inl (show 17 ∈ ([4, 5, 10, 11, 17, 18] : List Nat) by decide), rfl⟩, ⟨.inl (show 18 ∈ ([4, 5, 10, 11, 17, 18] : List Nat) by decide), rfl⟩, trivial⟩ (fun _ _ _ _ h => h) rfl ⟨⟨.inl rfl, rfl⟩, ⟨.inl rfl, mapO_names _ _⟩, ⟨.inl rfl, rfl⟩, ⟨.inl rfl, rfl⟩, ⟨.inl rfl, rfl⟩, ⟨.inl rfl, rfl⟩, trivial⟩ rfl
set_option maxRecDepth 100000 in
theorem f3_at {M : PM} {m : Nat} {a b c d : Nat} {z : Int} (hz : 8 ≤ z ∧ z < 16) (hs : getW M.ms aS1 ≠ 2) : StepF Tryz.prog Fz0 40 41 [.ptr 10 0, .ptr 4 0] (.bool false) (mem M ++ [(10, XF m a b c d), (11, freeO z hdrV 2), (17, hdrO z 1 true), (18, clO)]) (mem (M.load aS1) ++ [(10, XF m a b c d), (11, freeO z pshV 1), (17, pshO 1 0 z)]) (κ1 17 40) := by
  have hr := runX_sound mixed none_sound (s_f3 0 (getW M.ms aS1) 0 0 0 0 0 0 0 1 2 m 0 0 0 0 0 0 false false z 0 1 M (M.load aS1) (mapO M.ms) .dead .dead .dead (.slice 16 0 4 4) (.slice 15 a b c) (.osl 19 0 d 3) .nilSlice .nilMap) ⟨by simp [Qst.ok]; omega, by simp [Qst.ok]; omega, div8 hz, pload_at (b := 4) (bm := 5) (m := M) rfl rfl aS1, by simp [Qst.ok]; omega, trivial⟩
  exact step_mk hr [40] (kan ⟨⟨show 4 < 40 by decide, rfl, rfl, rfl⟩, ⟨show 5 < 40 by decide, rfl, mapO_names _ _, rfl⟩, ⟨show 10 < 40 by decide, rfl, rfl, rfl⟩, ⟨show 11 < 40 by decide, rfl, rfl, rfl⟩, ⟨show 17 < 40 by decide, rfl, rfl, rfl⟩, ⟨show 18 < 40 by decide, rfl, rfl, rfl⟩, trivial⟩ (show ([4, 5, 10, 11, 17, 18] : List Nat).Nodup by decide) (show 0 ∉ ([4, 5, 10, 11, 17, 18] : List Nat) by decide)) (show ([40] : List Nat).Nodup by decide) (fun b hb => by
      simp only [List.mem_cons, List.not_mem_nil, or_false] at hb
      rcases hb with rfl
      · exact ⟨by decide, rfl, rfl⟩) (glN2 (by decide)) κ_z ⟨⟨.inl (show 4 ∈ ([4, 5, 10, 11, 17, 18] : List Nat) by decide), rfl⟩, ⟨.inl (show 5 ∈ ([4, 5, 10, 11, 17, 18] : List Nat) by decide), by rw [mapO_ren]; rfl⟩, ⟨.inl (show 10 ∈ ([4, 5, 10, 11, 17, 18] : List Nat) by decide), rfl⟩, ⟨.inl (show 11 ∈ ([4, 5, 10, 11, 17, 18] : List Nat) by decide), rfl⟩, ⟨.inr (show 40 ∈ ([40] : List Nat) by decide), rfl⟩, trivial⟩ (show ∀ b ∈ ([4, 5, 10, 11, 17] : List Nat), ∀ c ∈ ([4, 5, 10, 11, 17] : List Nat), κ1 17 40 b = κ1 17 40 c → b = c by decide) rfl ⟨⟨.inl rfl, rfl⟩, ⟨.inl rfl, mapO_names _ _⟩, ⟨.inl rfl, rfl⟩, ⟨.inl rfl, rfl⟩, ⟨.inl rfl, rfl⟩, ⟨.inl rfl, rfl⟩, trivial⟩ rfl
set_option maxRecDepth 100000 in
theorem f4_at {M : PM} {m : Nat} {a b c d : Nat} {z : Int} (hL : Lt M) : StepF Tryz.prog Fz0 40 41 [.ptr 10 0, .ptr 4 0] (.bool false) (mem M ++ [(10, XF m a b c d), (11, freeO z pshV 1), (17, pshO 1 0 z)]) (mem (M.load aF) ++ [(10, XF m a b c d), (11, freeO z pshV 1), (17, pshO 2 (getW M.ms aF) z)]) id := by
  have hr := runX_sound mixed none_sound (s_f4 (getW M.ms aF) 0 0 0 0 (tgN (getW M.ms aF)) 0 0 0 0 2 m 0 0 0 0 0 0 false false z (slI (getW M.ms aF)) 0 M (M.load aF) (mapO M.ms) .dead .dead .dead (.slice 16 0 4 4) (.slice 15 a b c) (.osl 19 0 d 3) .nilSlice .nilMap) ⟨pload_at (b := 4) (bm := 5) (m := M) rfl rfl aF, fun s hs => ashead_call _ (hL aF) s hs, trivial⟩
  exact step_mk hr [] (kan ⟨⟨show 4 < 40 by decide, rfl, rfl, rfl⟩, ⟨show 5 < 40 by decide, rfl, mapO_names _ _, rfl⟩, ⟨show 10 < 40 by decide, rfl, rfl, rfl⟩, ⟨show 11 < 40 by decide, rfl, rfl, rfl⟩, ⟨show 17 < 40 by decide, rfl, rfl, rfl⟩, trivial⟩ (show ([4, 5, 10, 11, 17] : List Nat).Nodup by decide) (show 0 ∉ ([4, 5, 10, 11, 17] : List Nat) by decide)) List.nodup_nil (fun _ h => by cases h) (fun _ _ => rfl) (fun _ _ => rfl) ⟨⟨.inl (show 4 ∈ ([4, 5, 10, 11, 17] : List Nat) by decide), rfl⟩, ⟨.inl (show 5 ∈ ([4, 5, 10, 11, 17] : List Nat) by decide), by rw [mapO_ren]; rfl⟩, ⟨.inl (show 10 ∈ ([4, 5, 10, 11, 17] : List Nat) by decide), rfl⟩, ⟨.inl (show 11 ∈ ([4, 5, 10, 11, 17] : List Nat) by decide), rfl⟩, ⟨.inl (show 17 ∈ ([4, 5, 10, 11, 17] : List Nat) by decide), rfl⟩, trivial⟩ (fun _ _ _ _ h => h) rfl ⟨⟨.inl rfl, rfl⟩, ⟨.inl rfl, mapO_names _ _⟩, ⟨.inl rfl, rfl⟩, ⟨.inl rfl, rfl⟩, ⟨.inl rfl, rfl⟩, trivial⟩ rfl
set_option maxRecDepth 100000 in
theorem f5_at {M : PM} {m : Nat} {a b c d : Nat} {z : Int} {w : Nat} (hw : w < 18446744073709551616) : StepF Tryz.prog Fz0 40 41 [.ptr 10 0, .ptr 4 0] (.bool false) (mem M ++ [(10, XF m a b c d), (11, freeO z pshV 1), (17, pshO 2 w z)]) (mem (M.store (aL z 2) (hdN (slI w) 0)) ++ [(10, XF m a b c d), (11, freeO z pshV 1), (17, pshO 3 w z)]) id := by
  have hr := runX_sound mixed none_sound (s_f5 w 0 (hdN (slI w) 0) 0 0 (tgN w) 0 0 0 0 2 m 0 0 0 0 0 0 false false z (slI w) 0 M (M.store (aL z 2) (hdN (slI w) 0)) (mapO M.ms) (mapO (M.store (aL z 2) (hdN (slI w) 0)).ms) .dead .dead (.slice 16 0 4 4) (.slice 15 a b c) (.osl 19 0 d 3) .nilSlice .nilMap) ⟨fun s hs => ashead_call _ hw s hs, fun s hs => head_call (slI w) 0 (by have := slI_or w; omega) (by have := slI_or w; omega) (by omega) s hs, pstore_at (b := 4) (bm := 5) (m := M) rfl rfl (aL z 2) (show (0 : Int) ≤ 9 by decide) (hdN (slI w) 0), trivial⟩
  exact step_mk hr [] (kan ⟨⟨show 4 < 40 by decide, rfl, rfl, rfl⟩, ⟨show 5 < 40 by decide, rfl, mapO_names _ _, rfl⟩, ⟨show 10 < 40 by decide, rfl, rfl, rfl⟩, ⟨show 11 < 40 by decide, rfl, rfl, rfl⟩, ⟨show 17 < 40 by decide, rfl, rfl, rfl⟩, trivial⟩ (show ([4, 5, 10, 11, 17] : List Nat).Nodup by decide) (show 0 ∉ ([4, 5, 10, 11, 17] : List Nat) by decide)) List.nodup_nil (fun _ h => by cases h) (fun _ _ => rfl) (fun _ _ => rfl) ⟨⟨.inl (show 4 ∈ ([4, 5, 10, 11, 17] : List Nat) by decide), rfl⟩, ⟨.inl (show 5 ∈ ([4, 5, 10, 11, 17] : List Nat) by decide), by rw [mapO_ren]; rfl⟩, ⟨.inl (show 10 ∈ ([4, 5, 10, 11, 17] : List Nat) by decide), rfl⟩, ⟨.inl (show 11 ∈ ([4, 5, 10, 11, 17] : List Nat) by decide), rfl⟩, ⟨.inl (show 17 ∈ ([4, 5, 10, 11, 17] : List Nat) by decide), rfl⟩, trivial⟩ (fun _ _ _ _ h => h) rfl ⟨⟨.inl rfl, rfl⟩, ⟨.inl rfl, mapO_names _ _⟩, ⟨.inl rfl, rfl⟩, ⟨.inl rfl, rfl⟩, ⟨.inl rfl, rfl⟩, trivial⟩ rfl
end Go.Proofs.YtimnagafechmbaaGreatDoor.scansOrphans
