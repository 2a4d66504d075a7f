/- The end of the law. Conditions: those that each theorem names, and no others. -/
import Derived.Test.YtimnagafechmbaaGreatDoorOrph13
namespace Go.Proofs.YtimnagafechmbaaGreatDoor.scansOrphans
open Go Go.Mini Go.Mini.Fast
/-! ### the law's end: closed runs, for each number of entries, and who has them -/
def enC : Nat → AV
  | 0 => .nilSlice
  | n + 1 => .osl 60 0 (n + 1) 6
def enB : Nat → List (Nat × AObj)
  | 0 => []
  | n + 1 => [(60, .cells false (ents (n + 1)))]
def up (l : List (Nat × AObj)) : List (Nat × AObj) := l.map fun x => (x.1 + 40, x.2.ren fun b => b + 40)
def hE (n m1 m2 : Nat) : List (Nat × AObj) := [(6, .cells false [.ptr 7 0, .ptr 9 0, .ptr 10 0, .ptr 47 0, .ptr 49 0, .ptr 50 0])] ++ ((7, guardO 0) :: dO m1) ++ up ((7, guardO 1) :: dO m2) ++ enB n
def TC (n : Nat) (j : Nat → AV) : List AV := [j 0, j 1, j 2, j 3, .bool false, j 5, j 6, .int .i64 (Int.ofNat n), enC n, j 9, j 10, j 11, .ptr 6 0, j 13, j 14, j 15, j 16, j 17, j 18, j 19, j 20, j 21, j 22, j 23, j 24, j 25, j 26, j 27, j 28, j 29, j 30, j 31, j 32, j 33, j 34, j 35, j 36, j 37, j 38, j 39, j 40, j 41, j 42, j 43, j 44, j 45, j 46, j 47, j 48, j 49, j 50, j 51, j 52, j 53, j 54, j 55, j 56, j 57, j 58, j 59, j 60, j 61, j 62, j 63, j 64, j 65, j 66, j 67, j 68, j 69, j 70, j 71, j 72, j 73, j 74, j 75, j 76, j 77, j 78, j 79, j 80, j 81, j 82, j 83, j 84, j 85, j 86, j 87, j 88, j 89, j 90, j 91, j 92, j 93, j 94, j 95, j 96, j 97, j 98, j 99, j 100, j 101, j 102, j 103, j 104, j 105, j 106, j 107, j 108, j 109, j 110, j 111, j 112, j 113, j 114, j 115, j 116, j 117, j 118, j 119, j 120, j 121, j 122, j 123, j 124, j 125, j 126, j 127, j 128, j 129, j 130, j 131, j 132, j 133, j 134, j 135, j 136, j 137, j 138, j 139, j 140, j 141]
def KN (n : Nat) : List Nat := [0, 1, 2, 3, 5, 6, 9, 10, 11, 13, 14, 15, 19, 20, 21, 22, 23, 24, 25, 26, 27, 28, 29, 30, 31, 32, 33, 34, 35, 36, 37, 38, 39, 40, 41, 42, 43, 44, 45, 46, 47, 48, 49, 50, 51, 52, 53, 54, 55, 56, 57, 58, 59, 60, 61, 62, 63, 64, 65, 66, 67, 68, 69, 70, 71, 72, 73, 74, 75, 76, 77, 78, 79, 80, 81, 82, 83, 84, 85, 86, 87, 88, 89, 90, 91, 92, 93, 94, 95] ++ (if n = 0 then [124, 125, 126, 127, 128, 129, 130, 131, 132, 133, 134, 135, 136, 137, 138, 139, 140] else [])
def hkL : Task → Option Res
  | .call g args s => if Nat.beq g 5 && (AV.beqs args [] && wfB s) then some ⟨.ret, [.bool true], s⟩ else none
  | _ => none
theorem hkL_ok : ∀ t r, hkL t = some r → Sound Tryz.prog t r := by
  intro t r h
  unfold hkL at h
  split at h
  case h_2 => cases h
  rename_i g args s
  split at h
  · rename_i hc
    simp only [Bool.and_eq_true] at hc
    simp only [Option.some.injEq] at h
    subst h
    have := Nat.eq_of_beq_eq_true hc.1
    subst this
    rw [AV.beqs_eq hc.2.1]
    refine lives21_all s ?_
    have := hc.2.2
    unfold wfB at this
    unfold G hasG
    simp only [List.all_cons, List.all_nil, Bool.and_true]
    split at this
    · rename_i hs
      rw [hs]
      exact this
    · cases this
  · cases h
noncomputable def eER (n m1 m2 : Nat) (j : Nat → AV) : Option (Res × List Dec × List Qst) := runX Tryz.prog hkL 300 3 (.code cRest (TC n j) (canF (hE n m1 m2) Fz0 ((hE n m1 m2).length + 1) 70)) []
def nmE (n : Nat) (y : AV) : Bool := y.names fun c => Nat.blt c 70 || (Nat.beq c 71 && !Nat.beq n 0)
def newT (n : Nat) : List (Nat × AObj) := if n = 0 then [] else [(71, .cells false (refs n))]
noncomputable def eEO (n m1 m2 : Nat) (j : Nat → AV) : Prop := (eER n m1 m2 j).map (fun x => (x.1.e, x.1.ts.length, x.1.ts[4]?, (KN n).map (fun k => x.1.ts[k]?), (List.range 142).all (fun k => (KN n).contains k || nmE n (x.1.ts.getD k undefA)), (hE n m1 m2 ++ newT n).map (fun y => x.1.s.get y.1), x.2.2)) = some (.ret, 142, some (.bool true), (KN n).map (fun k => some (j k)), true, (hE n m1 m2 ++ newT n).map (fun y => some y.2), [])
theorem e_0 (j : Nat → AV) : eEO 0 0 0 j := by
  show Option.map _ _ = _
  kernel_rfl
theorem e_a (j : Nat → AV) : ∀ n, 0 < n → n ≤ 8 → eEO n n 0 j
  | 0, h, _ => absurd h (by omega)
  | 1, _, _ => by
    show Option.map _ _ = _
    kernel_rfl
  | 2, _, _ => by
    show Option.map _ _ = _
    kernel_rfl
  | 3, _, _ => by
    show Option.map _ _ = _
    kernel_rfl
  | 4, _, _ => by
    show Option.map _ _ = _
    kernel_rfl
  | 5, _, _ => by
    show Option.map _ _ = _
    kernel_rfl
  | 6, _, _ => by
    show Option.map _ _ = _
    kernel_rfl
  | 7, _, _ => by
    show Option.map _ _ = _
    kernel_rfl
  | 8, _, _ => by
    show Option.map _ _ = _
    kernel_rfl
  | n + 9, _, h => absurd h (by omega)
theorem e_b (j : Nat → AV) : ∀ n, 0 < n → n ≤ 8 → eEO n 0 n j
  | 0, h, _ => absurd h (by omega)
  | 1, _, _ => by
    show Option.map _ _ = _
    kernel_rfl
  | 2, _, _ => by
    show Option.map _ _ = _
    kernel_rfl
  | 3, _, _ => by
    show Option.map _ _ = _
    kernel_rfl
  | 4, _, _ => by
    show Option.map _ _ = _
    kernel_rfl
  | 5, _, _ => by
    show Option.map _ _ = _
    kernel_rfl
  | 6, _, _ => by
    show Option.map _ _ = _
    kernel_rfl
  | 7, _, _ => by
    show Option.map _ _ = _
    kernel_rfl
  | 8, _, _ => by
    show Option.map _ _ = _
    kernel_rfl
  | n + 9, _, h => absurd h (by omega)
end Go.Proofs.YtimnagafechmbaaGreatDoor.scansOrphans
namespace Go.Proofs.YtimnagafechmbaaGreatDoor.scansOrphans
open Go Go.Mini Go.Mini.Fast
/-! ### the law's end, where the two takers lie -/
def TOk2 (b : Nat) (o : AObj) : Prop := b < 20 ∧ o.names (fun c => Nat.blt c 20) = true
theorem dn_ok (n hw : Nat) (k : Bool) (m : Nat) : eachX TOk2 (tl n hw k (.dn m)) := by
  cases m with
  | zero => exact ⟨⟨show 7 < 20 by decide, rfl⟩, ⟨show 8 < 20 by decide, rfl⟩, ⟨show 10 < 20 by decide, rfl⟩, trivial⟩
  | succ m => exact ⟨⟨show 7 < 20 by decide, rfl⟩, ⟨show 8 < 20 by decide, rfl⟩, ⟨show 10 < 20 by decide, rfl⟩, ⟨show 19 < 20 by decide, refs_names _ _⟩, trivial⟩
def p3 (π π2 : Nat → Nat) (er x : Nat) : Nat := if x < 40 then π x else if x < 60 then π2 (x - 40) else if x = 60 then er else x
theorem p3_lo {π π2 : Nat → Nat} {er x : Nat} (h : x < 40) : p3 π π2 er x = π x := if_pos h
theorem p3_up {π π2 : Nat → Nat} {er x : Nat} (h : x < 20) : p3 π π2 er (x + 40) = π2 x := by
  unfold p3
  rw [if_neg (by omega), if_pos (by omega), Nat.add_sub_cancel]
theorem hE_mem {n hw m1 m2 : Nat} {x : Nat × AObj} (h : x ∈ hE n m1 m2) : x = (6, .cells false [.ptr 7 0, .ptr 9 0, .ptr 10 0, .ptr 47 0, .ptr 49 0, .ptr 50 0]) ∨ x ∈ tl n hw false (.dn m1) ∨ (∃ y ∈ tl n hw true (.dn m2), x = (y.1 + 40, y.2.ren fun b => b + 40)) ∨ x ∈ enB n := by
  have e1 : tl n hw false (.dn m1) = (7, guardO 0) :: dO m1 := rfl
  have e2 : tl n hw true (.dn m2) = (7, guardO 1) :: dO m2 := rfl
  rw [e1, e2]
  unfold hE up at h
  simp only [List.mem_append, List.mem_map] at h
  rcases h with ((h | h) | ⟨y, hy, rfl⟩) | h
  · exact .inl (by simpa using h)
  · exact .inr (.inl h)
  · exact .inr (.inr (.inl ⟨y, hy, rfl⟩))
  · exact .inr (.inr (.inr h))
def erN : Nat → Nat
  | 0 => 2
  | n + 1 => 10 * n + 7
theorem er_ks (n : Nat) : erN n ∈ KsN n := by cases n <;> simp [erN, KsN]
theorem enB_mem {n : Nat} {x : Nat × AObj} (h : x ∈ enB n) : x = (60, .cells false (ents n)) := by
  cases n with
  | zero => cases h
  | succ n => simpa [enB] using h
/-- The two takers, the pair of them, and the entries, in one small heap. -/
theorem joint {n hw m1 m2 : Nat} {M : PM} {s : AS} {b tw : Nat} {π π2 : Nat → Nat} (h : TwoP n hw false (.dn m1) (.dn m2) M s b tw (KsN n) π π2) (he : enB n ≠ [] → s.get (erN n) = some (.cells false (ents n))) :
    At Tryz.prog (hE n m1 m2) Fz0 s (p3 π π2 (erN n)) := by
  have ek := h.ks (erN n) (er_ks n)
  have t6 : (6, twoO false (xv true) (yv true)) ∈ mem M ++ own n hw false (sc (.dn m2)) (.dn m1) := own_mem (.inr (.inr (.inl rfl)))
  have u6 : (6, twoO true (xv true) (yv true)) ∈ mem M ++ own n hw true (sc (.dn m1)) (.dn m2) := own_mem (.inr (.inr (.inl rfl)))
  have g1 := eachX_mem h.A.at_ _ t6
  have g2 := eachX_mem h.B.at_ _ u6
  have hq : cells6 false (π 7) (π 9) ((xv true).ren π) (π 30) (π 31) ((yv true).ren π) = cells6 false (π2 30) (π2 31) ((yv true).ren π2) (π2 7) (π2 9) ((xv true).ren π2) := by
    have : s.get (π 6) = s.get (π2 6) := by rw [h.m6.1, h.m6.2]
    rw [g1, g2] at this
    simp only [Option.some.injEq] at this
    rw [two_ren, two_ren, show true = !false from rfl, cells6_not] at this
    exact this
  obtain ⟨_, _, _, q4, q5, q6⟩ := cells6_inj hq
  have q6 : π 32 = π2 10 := by
    have : AV.ptr (π 32) 0 = AV.ptr (π2 10) 0 := q6
    simpa using this
  have inA : ∀ x ∈ tl n hw false (.dn m1), x ∈ mem M ++ own n hw false (sc (.dn m2)) (.dn m1) := fun x hx => own_mem (.inr (.inr (.inr hx)))
  have inB : ∀ x ∈ tl n hw true (.dn m2), x ∈ mem M ++ own n hw true (sc (.dn m1)) (.dn m2) := fun x hx => own_mem (.inr (.inr (.inr hx)))
  have kA : ∀ {bs : List (Nat × AObj)} {x : Nat × AObj}, x ∈ bs → x.1 ∈ bs.map (·.1) := fun hx => List.mem_map.2 ⟨_, hx, rfl⟩
  have a7 : ∀ x ∈ tl n hw false (.dn m1), 7 ≤ x.1 ∧ x.1 < 20 := fun x hx => ⟨(eachX_mem (tl_ok n hw false (.dn m1)) x hx).1, (eachX_mem (dn_ok n hw false m1) x hx).1⟩
  have b7 : ∀ x ∈ tl n hw true (.dn m2), 7 ≤ x.1 ∧ x.1 < 20 := fun x hx => ⟨(eachX_mem (tl_ok n hw true (.dn m2)) x hx).1, (eachX_mem (dn_ok n hw true m2) x hx).1⟩
  -- where the names lie
  have loc : ∀ x ∈ hE n m1 m2, (x.1 = 6 ∧ p3 π π2 (erN n) x.1 = tw) ∨ (∃ y ∈ tl n hw false (.dn m1), x.1 = y.1 ∧ p3 π π2 (erN n) x.1 = π y.1) ∨ (∃ y ∈ tl n hw true (.dn m2), x.1 = y.1 + 40 ∧ p3 π π2 (erN n) x.1 = π2 y.1) ∨ (x.1 = 60 ∧ p3 π π2 (erN n) x.1 = erN n) := fun x hx => by
    rcases hE_mem (hw := hw) hx with rfl | hx | ⟨y, hy, rfl⟩ | hx
    · exact .inl ⟨rfl, h.m6.1⟩
    · exact .inr (.inl ⟨x, hx, rfl, p3_lo (by have := a7 x hx; omega)⟩)
    · exact .inr (.inr (.inl ⟨y, hy, rfl, p3_up (b7 y hy).2⟩))
    · rw [enB_mem hx]
      exact .inr (.inr (.inr ⟨rfl, rfl⟩))
  have z1 := h.A.glob 0 (by rw [glN]; omega)
  have z2 := h.B.glob 0 (by rw [glN]; omega)
  refine ⟨fun g hg => ?_, fun x hx => ?_, fun c hc x hx => ?_, fun c hc d hd e => ?_, eachX_all fun x hx => ?_, h.A.keys⟩
  · rw [p3_lo (by rw [glN] at hg; omega)]
    exact h.A.glob g hg
  · obtain ⟨ro, hr⟩ := h.A.fz x hx
    have hx0 : x.1 = 0 := by
      simp only [Fz0, List.mem_cons, List.not_mem_nil, or_false] at hx
      subst hx
      rfl
    refine ⟨ro, ?_⟩
    rw [p3_lo (by omega)]
    exact hr
  · obtain ⟨y, hy, rfl⟩ := List.mem_map.1 hc
    have hx0 : x.1 = 0 := by
      simp only [Fz0, List.mem_cons, List.not_mem_nil, or_false] at hx
      subst hx
      rfl
    have e0 : p3 π π2 (erN n) 0 = 0 := (p3_lo (by omega)).trans z1
    rw [hx0, e0]
    rcases loc y hy with ⟨_, e⟩ | ⟨z, hz, _, e⟩ | ⟨z, hz, _, e⟩ | ⟨_, e⟩ <;> rw [e]
    · have := h.A.out 6 (kA t6) x hx
      rw [hx0, z1, h.m6.1] at this
      exact this
    · have := h.A.out z.1 (kA (inA z hz)) x hx
      rw [hx0, z1] at this
      exact this
    · have := h.B.out z.1 (kA (inB z hz)) x hx
      rw [hx0, z2] at this
      exact this
    · cases n <;> simp [erN]
  · obtain ⟨x, hx, rfl⟩ := List.mem_map.1 hc
    obtain ⟨y, hy, rfl⟩ := List.mem_map.1 hd
    have e : p3 π π2 (erN n) x.1 = p3 π π2 (erN n) y.1 := e
    have s1 : ∀ z ∈ tl n hw false (.dn m1), tw ≠ π z.1 := fun z hz e => by
      have := h.A.inj 6 (kA t6) z.1 (kA (inA z hz)) (by rw [h.m6.1]; exact e)
      have := a7 z hz
      omega
    have s2 : ∀ z ∈ tl n hw true (.dn m2), tw ≠ π2 z.1 := fun z hz e => by
      have := h.B.inj 6 (kA u6) z.1 (kA (inB z hz)) (by rw [h.m6.2]; exact e)
      have := b7 z hz
      omega
    have s3 : tw ≠ erN n := fun e => ek.2.1 _ t6 (by rw [h.m6.1]; exact e)
    rcases loc x hx with ⟨n1, e1⟩ | ⟨z, hz, n1, e1⟩ | ⟨z, hz, n1, e1⟩ | ⟨n1, e1⟩ <;> rcases loc y hy with ⟨n2, e2⟩ | ⟨u, hu, n2, e2⟩ | ⟨u, hu, n2, e2⟩ | ⟨n2, e2⟩ <;> rw [e1, e2] at e
    · omega
    · exact absurd e (s1 u hu)
    · exact absurd e (s2 u hu)
    · exact absurd e s3
    · exact absurd e.symm (s1 z hz)
    · have := h.A.inj z.1 (kA (inA z hz)) u.1 (kA (inA u hu)) e
      omega
    · exact absurd e (h.dis z hz u hu)
    · exact absurd e (ek.2.1 z (inA z hz))
    · exact absurd e.symm (s2 z hz)
    · exact absurd e.symm (h.dis u hu z hz)
    · have := h.B.inj z.1 (kA (inB z hz)) u.1 (kA (inB u hu)) e
      omega
    · exact absurd e (ek.2.2 z (inB z hz))
    · exact absurd e.symm s3
    · exact absurd e.symm (ek.2.1 u (inA u hu))
    · exact absurd e.symm (ek.2.2 u (inB u hu))
    · omega
  · rcases hE_mem (hw := hw) hx with rfl | hx | ⟨y, hy, rfl⟩ | hx
    · show s.get (π 6) = some (.cells false [.ptr (π 7) 0, .ptr (π 9) 0, .ptr (π 10) 0, .ptr (π2 7) 0, .ptr (π2 9) 0, .ptr (π2 10) 0])
      rw [g1, two_ren, q4, q5]
      show some (AObj.cells false [.ptr (π 7) 0, .ptr (π 9) 0, .ptr (π 10) 0, .ptr (π2 7) 0, .ptr (π2 9) 0, .ptr (π 32) 0]) = _
      rw [q6]
    · rw [p3_lo (by have := a7 x hx; omega), eachX_mem h.A.at_ x (inA x hx)]
      congr 1
      refine oren_congr (fun c hc => ?_) (eachX_mem (dn_ok n hw false m1) x hx).2
      have : c < 20 := Nat.blt_eq ▸ hc
      exact (p3_lo (by omega)).symm
    · show s.get (p3 π π2 (erN n) (y.1 + 40)) = some ((y.2.ren fun b => b + 40).ren (p3 π π2 (erN n)))
      rw [p3_up (b7 y hy).2, eachX_mem h.B.at_ y (inB y hy), oren_comp]
      congr 1
      refine oren_congr (fun c hc => ?_) (eachX_mem (dn_ok n hw true m2) y hy).2
      have : c < 20 := Nat.blt_eq ▸ hc
      exact (p3_up this).symm
    · rw [enB_mem hx]
      have := he (fun e => by rw [e] at hx; cases hx)
      show s.get (erN n) = some (AObj.cells false (rens _ (ents n)))
      rw [ents_ren]
      exact this
end Go.Proofs.YtimnagafechmbaaGreatDoor.scansOrphans
namespace Go.Proofs.YtimnagafechmbaaGreatDoor.scansOrphans
open Go Go.Mini Go.Mini.Fast
/-! ### the law's end, run where it comes to lie -/
theorem junk_names (p : Nat → Bool) (y : AV) : (junkOf y).names p = true := by
  cases y
  case agg cs =>
    show namess p (cs.map fun _ => junkA) = true
    induction cs with
    | nil => rfl
    | cons c cs ih => exact ih
  all_goals rfl
theorem junk_ren (π : Nat → Nat) (y : AV) : (junkOf y).ren π = junkOf y := by
  rw [ren_congr (p := fun _ => false) (π' := fun b => b) (fun _ h => by cases h) (junk_names _ y), ren_id]
theorem kan70 {bs : List (Nat × AObj)} (h : eachX (fun b o => b < 70 ∧ o.rw = true ∧ o.names (fun c => Nat.blt c 70) = true ∧ getB bs b = some o) bs) (hn : (bs.map (·.1)).Nodup) (hz : 0 ∉ bs.map (·.1)) : Kan Tryz.prog bs Fz0 70 :=
  ⟨by rw [glN]; decide, h, hn, fun x hx => by
    simp only [Fz0, List.mem_cons, List.not_mem_nil, or_false] at hx
    subst hx
    exact ⟨by decide, hz, by decide⟩⟩
theorem kan_0 : Kan Tryz.prog (hE 0 0 0) Fz0 70 :=
  kan70 ⟨⟨show 6 < 70 by decide, rfl, rfl, rfl⟩, ⟨show 7 < 70 by decide, rfl, rfl, rfl⟩, ⟨show 8 < 70 by decide, rfl, rfl, rfl⟩, ⟨show 10 < 70 by decide, rfl, rfl, rfl⟩, ⟨show 47 < 70 by decide, rfl, rfl, rfl⟩, ⟨show 48 < 70 by decide, rfl, rfl, rfl⟩, ⟨show 50 < 70 by decide, rfl, rfl, rfl⟩, trivial⟩ (show ([6, 7, 8, 10, 47, 48, 50] : List Nat).Nodup by decide) (show 0 ∉ ([6, 7, 8, 10, 47, 48, 50] : List Nat) by decide)
theorem refs_up (p : Nat → Bool) (f : Nat → Nat) (n : Nat) : ((AObj.cells false (refs n)).ren f).names p = true := by
  show namess p (rens f (refs n)) = true
  rw [refs_ren]
  exact refs_names _ _
theorem kan_a (n : Nat) : Kan Tryz.prog (hE (n + 1) (n + 1) 0) Fz0 70 :=
  kan70 ⟨⟨show 6 < 70 by decide, rfl, rfl, rfl⟩, ⟨show 7 < 70 by decide, rfl, rfl, rfl⟩, ⟨show 8 < 70 by decide, rfl, rfl, rfl⟩, ⟨show 10 < 70 by decide, rfl, rfl, rfl⟩, ⟨show 19 < 70 by decide, rfl, refs_names _ _, rfl⟩, ⟨show 47 < 70 by decide, rfl, rfl, rfl⟩, ⟨show 48 < 70 by decide, rfl, rfl, rfl⟩, ⟨show 50 < 70 by decide, rfl, rfl, rfl⟩, ⟨show 60 < 70 by decide, rfl, ents_names _ _, rfl⟩, trivial⟩ (show ([6, 7, 8, 10, 19, 47, 48, 50, 60] : List Nat).Nodup by decide) (show 0 ∉ ([6, 7, 8, 10, 19, 47, 48, 50, 60] : List Nat) by decide)
theorem kan_b (n : Nat) : Kan Tryz.prog (hE (n + 1) 0 (n + 1)) Fz0 70 :=
  kan70 ⟨⟨show 6 < 70 by decide, rfl, rfl, rfl⟩, ⟨show 7 < 70 by decide, rfl, rfl, rfl⟩, ⟨show 8 < 70 by decide, rfl, rfl, rfl⟩, ⟨show 10 < 70 by decide, rfl, rfl, rfl⟩, ⟨show 47 < 70 by decide, rfl, rfl, rfl⟩, ⟨show 48 < 70 by decide, rfl, rfl, rfl⟩, ⟨show 50 < 70 by decide, rfl, rfl, rfl⟩, ⟨show 59 < 70 by decide, rfl, refs_up _ _ _, rfl⟩, ⟨show 60 < 70 by decide, rfl, ents_names _ _, rfl⟩, trivial⟩ (show ([6, 7, 8, 10, 47, 48, 50, 59, 60] : List Nat).Nodup by decide) (show 0 ∉ ([6, 7, 8, 10, 47, 48, 50, 59, 60] : List Nat) by decide)
theorem namess_all {p : Nat → Bool} : ∀ {l : List AV}, (∀ y ∈ l, y.names p = true) → namess p l = true
  | [], _ => rfl
  | x :: l, h => by
    show (x.names p && namess p l) = true
    rw [h x (by simp), namess_all fun y hy => h y (by simp [hy])]
    rfl
theorem rens_get (π : Nat → Nat) : ∀ (l : List AV) (k : Nat), (rens π l)[k]? = (l[k]?).map fun y => y.ren π
  | [], k => by cases k <;> rfl
  | x :: l, 0 => rfl
  | x :: l, k + 1 => by
    show (x.ren π :: rens π l)[k + 1]? = _
    rw [List.getElem?_cons_succ, List.getElem?_cons_succ, rens_get π l k]
/-- The law's end, placed. -/
theorem end_place {n m1 m2 : Nat} {jj : Nat → AV} {s : AS} {π : Nat → Nat} (hj : ∀ k p, (jj k).names p = true) (K : Kan Tryz.prog (hE n m1 m2) Fz0 70) (A : At Tryz.prog (hE n m1 m2) Fz0 s π) (h : eEO n m1 m2 jj) :
    ∃ ts s2, tget ts 4 = .bool true ∧ Sound Tryz.prog (.code cRest (rens π (TC n jj)) s) ⟨.ret, ts, s2⟩ := by
  have h : (eER n m1 m2 jj).map _ = some _ := h
  cases hr : eER n m1 m2 jj with
  | none => rw [hr] at h; cases h
  | some x =>
    rw [hr] at h
    obtain ⟨⟨e, ts, s1⟩, ds', q'⟩ := x
    simp only [Option.map_some, Option.some.injEq, Prod.mk.injEq] at h
    obtain ⟨h1, h2, h3, h4, h5, h6, h7⟩ := h
    subst h1 h7
    have hs := runX_sound mixed hkL_ok hr trivial
    have gets : ∀ y ∈ hE n m1 m2 ++ newT n, s1.get y.1 = some y.2 := fun y hy => List.map_inj_left.1 h6 y hy
    have old : ∀ y ∈ hE n m1 m2, objAt s1 y.1 = y.2 := fun y hy => by simp [objAt, gets y (by simp [hy])]
    have nw : ∀ c ∈ (newT n).map (·.1), c = 71 ∧ n ≠ 0 ∧ objAt s1 c = .cells false (refs n) := fun c hc => by
      obtain ⟨y, hy, rfl⟩ := List.mem_map.1 hc
      have g := gets y (by simp [hy])
      unfold newT at hy
      split at hy
      · cases hy
      · rename_i hn
        simp only [List.mem_cons, List.not_mem_nil, or_false] at hy
        subst hy
        exact ⟨rfl, hn, by simp [objAt, g]⟩
    have nin : n ≠ 0 → 71 ∈ (newT n).map (·.1) := fun hn => by
      unfold newT
      rw [if_neg hn]
      simp
    have low : ∀ c, Nat.blt c 70 = true → pN 70 ((newT n).map (·.1)) c = true := fun c hc => by unfold pN; rw [hc]; rfl
    have hv : namess (pN 70 ((newT n).map (·.1))) ts = true := namess_all fun y hy => by
      obtain ⟨k, hk, rfl⟩ := List.getElem_of_mem hy
      have hk2 : k < 142 := by rw [← h2]; exact hk
      have := List.all_eq_true.1 h5 k (List.mem_range.2 hk2)
      rw [Bool.or_eq_true] at this
      rcases this with a | a
      · have a := List.contains_iff_mem.1 a
        have := List.map_inj_left.1 h4 k a
        rw [List.getElem?_eq_getElem hk] at this
        simp only [Option.some.injEq] at this
        rw [this]
        exact hj k _
      · rw [List.getD_eq_getElem?_getD, List.getElem?_eq_getElem hk] at a
        refine names_sub (fun c hc => ?_) a
        rw [Bool.or_eq_true] at hc
        rcases hc with hc | hc
        · exact low c hc
        · simp only [Bool.and_eq_true, Bool.not_eq_true'] at hc
          have e1 := Nat.eq_of_beq_eq_true hc.1
          have e2 : n ≠ 0 := fun e => by rw [e] at hc; cases hc.2
          unfold pN
          rw [e1]
          have := nin e2
          simp [this]
    have hp := Sound.putCG (P := Tryz.prog) hs π (fun g hg => ⟨by rw [glN] at hg; show g < 70; omega, A.glob g hg⟩) ((newT n).map (·.1)) s (fun x hx => ⟨(K.fz x hx).1, (K.fz x hx).2.1, (K.fz x hx).2.2, A.fz x hx, fun b hb => A.out b hb x hx⟩)
      (eachX_all fun x hx => ⟨(eachX_mem K.ok x hx).1, (eachX_mem K.ok x hx).2.1, (eachX_mem K.ok x hx).2.2.1, (eachX_mem K.ok x hx).2.2.2, eachX_mem A.at_ x hx, by rw [old x hx]; exact .inl (eachX_mem K.ok x hx).2.1, by rw [old x hx]; exact onames_sub low (eachX_mem K.ok x hx).2.2.1⟩) A.inj K.nodup (by unfold newT; split <;> simp)
      (fun c hc => by
        obtain ⟨a, _, b⟩ := nw c hc
        rw [b]
        exact ⟨by rw [a]; show 70 ≤ 71; omega, rfl, refs_names _ _⟩) (namess_all fun y hy => by
        unfold TC at hy
        simp only [List.mem_cons, List.not_mem_nil, or_false] at hy
        rcases hy with rfl | rfl | rfl | rfl | rfl | rfl | rfl | rfl | rfl | rfl | rfl | rfl | rfl | rfl | rfl | rfl | rfl | rfl | rfl | rfl | rfl | rfl | rfl | rfl | rfl | rfl | rfl | rfl | rfl | rfl | rfl | rfl | rfl | rfl | rfl | rfl | rfl | rfl | rfl | rfl | rfl | rfl | rfl | rfl | rfl | rfl | rfl | rfl | rfl | rfl | rfl | rfl | rfl | rfl | rfl | rfl | rfl | rfl | rfl | rfl | rfl | rfl | rfl | rfl | rfl | rfl | rfl | rfl | rfl | rfl | rfl | rfl | rfl | rfl | rfl | rfl | rfl | rfl | rfl | rfl | rfl | rfl | rfl | rfl | rfl | rfl | rfl | rfl | rfl | rfl | rfl | rfl | rfl | rfl | rfl | rfl | rfl | rfl | rfl | rfl | rfl | rfl | rfl | rfl | rfl | rfl | rfl | rfl | rfl | rfl | rfl | rfl | rfl | rfl | rfl | rfl | rfl | rfl | rfl | rfl | rfl | rfl | rfl | rfl | rfl | rfl | rfl | rfl | rfl | rfl | rfl | rfl | rfl | rfl | rfl | rfl | rfl | rfl | rfl | rfl | rfl | rfl
        all_goals first | exact hj _ _ | rfl | (cases n <;> rfl)) hv
    refine ⟨_, _, ?_, hp⟩
    show ((rens _ ts)[4]?).getD undefA = _
    rw [rens_get, h3]
    rfl
end Go.Proofs.YtimnagafechmbaaGreatDoor.scansOrphans
