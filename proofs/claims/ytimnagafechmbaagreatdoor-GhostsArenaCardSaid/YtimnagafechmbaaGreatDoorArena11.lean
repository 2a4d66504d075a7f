/- What retiring and freeing make of the memory, plainly. Conditions: those that each theorem names, and no others. -/
import Derived.Test.YtimnagafechmbaaGreatDoorArena10
namespace Go.Proofs.YtimnagafechmbaaGreatDoor.ghostsArena
open Go Go.Mini
/-! ### a call of which it is said that it left a name of something new; what was done last -/
def escTo (s : AS) (b : Nat) : AS := ⟨⟨s.h.bs, s.h.len, minE s.h.esc (some b), s.h.wr⟩, s.nx⟩
theorem Sound.escTo {P : Program} {f : FuncId} {args vs : List AV} {e : AExit} {s s1 : AS} (h : Sound P (.call f args s) ⟨e, vs, s1⟩) (b : Nat) : Sound P (.call f args s) ⟨e, vs, escTo s1 b⟩ := by
  intro B ρ cargs w R hc
  refine Calls.mono (h B ρ cargs w R hc) fun en w1 hr => ?_
  obtain ⟨v', u, ρ1, e1, e2, e3, hp⟩ := hr
  exact ⟨v', u, ρ1, e1, e2, e3, ⟨hp.rel.congr (fun _ => rfl) rfl rfl, hp.ext, fun b hb hn => hp.unt b hb hn, ⟨hp.shape.nx, hp.shape.keys, hp.shape.log⟩, hp.size⟩⟩
theorem last_run (M : PM) (om : AObj) : runX Tryz.prog none_ 60 24 (.call 24 [.ptr 4 0] ⟨⟨[(4, .cells false (M.C (.map 5))), (5, om)], 2, none, []⟩, 6⟩) [] = some ({ e := .ret, ts := [.agg [.int .u8 M.kd, .int .u8 M.4.fst, .int .i64 M.a.2.fst, .int .i64 M.a.2.snd, .int .u64 (Int.ofNat M.was), .int .u64 (Int.ofNat M.is), .bool M.dn]], s := ⟨⟨[(4, .cells false [.map 5, .int .i64 M.st, .int .u8 M.kd, .int .u8 M.4.fst, .int .i64 M.a.2.fst, .int .i64 M.a.2.snd, .int .u64 (Int.ofNat M.was), .int .u64 (Int.ofNat M.is), .bool M.dn]), (5, om)], 2, none, []⟩, 7⟩ }, [], []) := by kernel_rfl
theorem last_at {s : AS} {b bm : Nat} {M : PM} (hb : s.get b = some (.cells false (M.C (.map bm)))) (hm : s.get bm = some (mapO M.ms)) :
    Sound Tryz.prog (.call 24 [.ptr b 0] s) ⟨.ret, [.agg (LA M.kd M.a M.was M.is M.dn)], s⟩ := by
  have hne : b ≠ bm := fun e => by
    subst e
    rw [hb] at hm
    simp [mapO] at hm
  have hr := runX_sound mixed none_sound (last_run M (mapO M.ms)) trivial
  have := put2 hr (c := M.C (.map 5)) (c' := M.C (.map 5)) (o := mapO M.ms) (o' := mapO M.ms) rfl rfl rfl (mapO_names _ _) rfl rfl (mapO_names _ _) (.inl rfl) rfl rfl hne (s := s) hb (by rw [mapO_ren]; exact hm)
  rw [mapO_ren] at this
  exact rec_same2 this hb hm
/-! ### what the memory holds, plainly; what a step of it is found to be -/
theorem get_put {a b : A3} {v : Nat} : ∀ {ms : MS}, getW (putW ms a v) b = if b = a then v else getW ms b
  | [] => by simp only [putW, getW]
  | x :: t => by
    simp only [putW]
    split
    · rename_i h
      subst h
      simp only [getW]
      split <;> rfl
    · rename_i h
      simp only [getW]
      split
      · rename_i h2
        rw [if_neg (fun e => h (e.symm.trans h2))]
      · exact get_put
def Lt (M : PM) : Prop := ∀ a, getW M.ms a < 18446744073709551616
theorem Lt.load {M : PM} (h : Lt M) (a : A3) : Lt (M.load a) := h
theorem Lt.store {M : PM} (h : Lt M) (a : A3) {u : Nat} (hu : u < 18446744073709551616) : Lt (M.store a u) := by
  unfold PM.store
  split
  · intro b
    show getW (putW M.ms a u) b < _
    rw [get_put]
    split
    · exact hu
    · exact h b
  · exact h
theorem Lt.cas {M : PM} (h : Lt M) (a : A3) (w : Nat) {u : Nat} (hu : u < 18446744073709551616) : Lt (M.cas a w u) := by
  unfold PM.cas
  split
  · intro b
    show getW (putW M.ms a u) b < _
    rw [get_put]
    split
    · exact hu
    · exact h b
  · exact h
theorem store_ms {M : PM} {a : A3} {u : Nat} (h : mayA a = true) : M.store a u = ⟨putW M.ms a u, inc M.st, 2, a, getW M.ms a, u, false⟩ := by
  unfold PM.store
  rw [if_pos h]
theorem cas_ms {M : PM} {a : A3} {w u : Nat} (h : mayA a = true) (hw : getW M.ms a = w) : M.cas a w u = ⟨putW M.ms a u, inc M.st, 3, a, getW M.ms a, u, true⟩ := by
  unfold PM.cas PM.casd
  rw [if_pos (by simp [h, hw])]
theorem mayL {z f : Int} (hz : 0 ≤ z ∧ z < 8) (hf : 0 ≤ f ∧ f < 8) : mayA (aL z f) = true := by
  unfold mayA rmK inR aL
  simp
  omega
theorem mayF : mayA aF = true := by decide
theorem mayPk : mayA aPk = true := by decide
def acM (M : PM) : Ac := ⟨M.kd, M.a.1, M.a.2.1, M.a.2.2, M.was, M.is, M.dn⟩
theorem hdrB_same {M : PM} (h : M.was = M.is) : hdrB (acM M) = false := by
  unfold hdrB acM
  simp [h]
theorem st_same {M : PM} (h : M.was = M.is) (m : Nat) (a b : Bool) : stF (acM M) m a b = 0 := by
  unfold stF
  rw [if_neg (by rw [hdrB_same h]; simp), if_neg (fun hh => hh.2.2.1 h)]
theorem st_load (M : PM) (a : A3) (m : Nat) (x y : Bool) : stF (acM (M.load a)) m x y = 0 := st_same rfl m x y
theorem st_not {M : PM} (h9 : M.a.1 ≠ 9 ∨ M.a.2.2 ≠ 0) (h6 : M.a.1 ≠ 6 ∨ M.a.2.2 ≠ 0) (m : Nat) (x y : Bool) : stF (acM M) m x y = 0 := by
  unfold stF
  rw [if_neg (fun hh => by
    unfold hdrB acM at hh
    simp only [Bool.and_eq_true, beq_iff_eq] at hh
    rcases h9 with h | h
    · exact h hh.1
    · exact h hh.2.1), if_neg (fun hh => by
    rcases h6 with h | h
    · exact h hh.1
    · exact h hh.2.1)]
theorem PM.store_a (M : PM) (a : A3) (u : Nat) : (M.store a u).a = a := by
  unfold PM.store
  split <;> rfl
theorem PM.cas_a (M : PM) (a : A3) (w u : Nat) : (M.cas a w u).a = a := by
  unfold PM.cas
  split <;> rfl
/-- A store of a field that is not a header. -/
theorem st_field (M : PM) (z f : Int) (u : Nat) (hf : f ≠ 0) (m : Nat) (x y : Bool) : stF (acM (M.store (aL z f) u)) m x y = 0 := st_not (.inr (by rw [PM.store_a]; exact hf)) (.inr (by rw [PM.store_a]; exact hf)) m x y
theorem st_casF (M : PM) (w u : Nat) (m : Nat) (x y : Bool) : stF (acM (M.cas aF w u)) m x y = 0 := st_not (.inl (by rw [PM.cas_a]; decide)) (.inl (by rw [PM.cas_a]; decide)) m x y
theorem st_casP (M : PM) (w u : Nat) (m : Nat) (x y : Bool) : stF (acM (M.cas aPk w u)) m x y = 0 := st_not (.inl (by rw [PM.cas_a]; decide)) (.inr (by rw [PM.cas_a]; decide)) m x y
/-- A store of a header. -/
theorem st_head {M : PM} {z : Int} {w v : Nat} (hz : 0 ≤ z ∧ z < 8) (hw : getW M.ms (aL z 0) = w) (hne : w ≠ v) (m : Nat) (x y : Bool) : stF (acM (M.store (aL z 0) v)) m x y = if ofF w v m = 0 then 1 else if (ofF w v m = 3 ∨ ofF w v m = 4 ∨ ofF w v m = 5) ∧ x = true then 2 else 0 := by
  rw [store_ms (mayL hz ⟨by omega, by omega⟩), hw]
  unfold stF
  rw [if_pos]
  · rfl
  · unfold hdrB acM aL
    simpa using hne
theorem may_mkw {s g m : Nat} (hs4 : s ≤ 3) (hg4 : g ≤ m) (hm : m < 4294967296) : mayP (mkw s g) m = true := by
  unfold mayP
  rw [hs_mkw (by omega), hg_mkw (by omega) (by omega)]
  simp
  omega
theorem may_mkw4 {m : Nat} (hm : m < 4294967296) : mayP (mkw 4 m) m = true := by
  unfold mayP
  rw [hs_mkw (by omega), hg_mkw (by omega) (by omega)]
  simp
theorem of_12 {g m : Nat} (hg4 : g ≤ m) (hm : m < 4294967296) : ofF (mkw 1 g) (mkw 2 g) m = 2 := by
  unfold ofF
  rw [if_pos ⟨may_mkw (by omega) hg4 hm, may_mkw (by omega) hg4 hm⟩, hs_mkw (by omega), hs_mkw (by omega), hg_mkw (by omega) (by omega), hg_mkw (by omega) (by omega)]
  simp
theorem of_01 {g m : Nat} (hg4 : g ≤ m) (hm : m < 4294967296) : ofF (mkw 0 g) (mkw 1 g) m = 1 := by
  unfold ofF
  rw [if_pos ⟨may_mkw (by omega) hg4 hm, may_mkw (by omega) hg4 hm⟩, hs_mkw (by omega), hs_mkw (by omega), hg_mkw (by omega) (by omega), hg_mkw (by omega) (by omega)]
  simp
theorem of_20 {g m : Nat} (hg4 : g < m) (hm : m < 4294967296) : ofF (mkw 2 g) (mkw 0 (g + 1)) m = 3 := by
  unfold ofF
  rw [if_pos ⟨may_mkw (by omega) (by omega) hm, may_mkw (by omega) (by omega) hm⟩, hs_mkw (by omega), hs_mkw (by omega), hg_mkw (by omega) (by omega), hg_mkw (by omega) (by omega)]
  simp
  omega
theorem of_24 {m : Nat} (hm : m < 4294967296) : ofF (mkw 2 m) (mkw 4 m) m = 5 := by
  unfold ofF
  rw [if_pos ⟨may_mkw (by omega) (by omega) hm, may_mkw4 hm⟩, hs_mkw (by omega), hs_mkw (by omega), hg_mkw (by omega) (by omega), hg_mkw (by omega) (by omega)]
  simp
/-! ### what retiring, freeing and allocating make of the memory -/
def Lw (M : PM) : Prop := M.was < 18446744073709551616 ∧ M.is < 18446744073709551616
theorem Lt.wload {M : PM} (h : Lt M) (a : A3) : Lw (M.load a) := ⟨h a, h a⟩
theorem Lt.wstore {M : PM} (h : Lt M) (a : A3) {u : Nat} (hu : u < 18446744073709551616) : Lw (M.store a u) := by
  unfold PM.store
  split
  · exact ⟨h a, hu⟩
  · exact ⟨h a, h a⟩
theorem Lt.wcas {M : PM} (h : Lt M) (a : A3) (w : Nat) {u : Nat} (hu : u < 18446744073709551616) : Lw (M.cas a w u) := by
  unfold PM.cas
  split
  · exact ⟨h a, hu⟩
  · exact ⟨h a, h a⟩
theorem get_store {M : PM} {a : A3} {u : Nat} (h : mayA a = true) (b : A3) : getW (M.store a u).ms b = if b = a then u else getW M.ms b := by
  rw [store_ms h]
  exact get_put
theorem get_cas {M : PM} {a : A3} {w u : Nat} (h : mayA a = true) (hw : getW M.ms a = w) (b : A3) : getW (M.cas a w u).ms b = if b = a then u else getW M.ms b := by
  rw [cas_ms h hw]
  exact get_put
section
variable (M : PM) (z : Int) (g : Nat)
def mR1 : PM := M.load aEp
def mR2 : PM := (mR1 M).load aEra
def mR3 : PM := (mR2 M).load (aL z 1)
def mR4 : PM := (mR3 M z).store (aL z 3) (getW M.ms aEp)
def mR5 : PM := (mR4 M z).store (aL z 4) (getW M.ms aEra)
def mR6 : PM := (mR5 M z).store (aL z 0) (mkw 2 g)
def mF7 : PM := (mR6 M z g).load (aL z 0)
def mY8 : PM := (mF7 M z g).store (aL z 0) (mkw 0 (g + 1))
def mY9 : PM := (mY8 M z g).load aSg
def mY10 : PM := (mY9 M z g).load aF
def mY11 : PM := (mY10 M z g).store (aL z 2) (hdN (slI (getW M.ms aF)) 0)
def mY12 : PM := (mY11 M z g).cas aF (getW M.ms aF) (hdN z (tgN (getW M.ms aF) + 1))
def mG8 : PM := (mF7 M z g).store (aL z 0) (mkw 4 g)
def mG9 : PM := (mG8 M z g).load aPk
def mG10 : PM := (mG9 M z g).cas aPk (getW M.ms aPk) (getW M.ms aPk + 1)
end
/-- A slot that is held, in a memory. -/
structure FreeIn (M : PM) (z : Int) (g mo : Nat) : Prop where
  lt : Lt M
  hz : 0 ≤ z ∧ z < 8
  hd : getW M.ms (aL z 0) = mkw 1 g
  hg : g ≤ mo
  hm : mo < 4294967295
  sg : getW M.ms aSg ≠ 2
  pk : getW M.ms aPk + 1 < 18446744073709551616
theorem aL_f {z y f e : Int} (h : f ≠ e) : aL z f ≠ aL y e := fun hh => h (by
  unfold aL at hh
  simp only [Prod.mk.injEq] at hh
  exact hh.2.2)
theorem aL_z {z y f e : Int} (h : z ≠ y) : aL z f ≠ aL y e := fun hh => h (by
  unfold aL at hh
  simp only [Prod.mk.injEq] at hh
  exact hh.2.1)
theorem aL_o {z f : Int} {a : A3} (h : a.1 ≠ 9) : a ≠ aL z f := fun hh => h (by rw [hh]; rfl)
theorem aSgL (z f : Int) : aSg ≠ aL z f := aL_o (by decide)
theorem aFL (z f : Int) : aF ≠ aL z f := aL_o (by decide)
theorem aPkL (z f : Int) : aPk ≠ aL z f := aL_o (by decide)
theorem mkw_l {s g mo : Nat} (h4 : s ≤ 4) (h : g ≤ mo) (hm : mo < 4294967295) : mkw s g < 18446744073709551616 := mkw_lt h4 (by omega)
section
variable {M : PM} {z : Int} {g mo : Nat} (H : FreeIn M z g mo)
include H
theorem gR4 (b : A3) : getW (mR4 M z).ms b = if b = aL z 3 then getW M.ms aEp else getW M.ms b := get_store (mayL H.hz ⟨by omega, by omega⟩) b
theorem gR5 (b : A3) : getW (mR5 M z).ms b = if b = aL z 4 then getW M.ms aEra else if b = aL z 3 then getW M.ms aEp else getW M.ms b := by
  unfold mR5
  rw [get_store (mayL H.hz ⟨by omega, by omega⟩) b, gR4 H]
theorem gR6 (b : A3) : getW (mR6 M z g).ms b = if b = aL z 0 then mkw 2 g else if b = aL z 4 then getW M.ms aEra else if b = aL z 3 then getW M.ms aEp else getW M.ms b := by
  unfold mR6
  rw [get_store (mayL H.hz ⟨by omega, by omega⟩) b, gR5 H]
theorem R6_o {b : A3} (h : b.1 ≠ 9) : getW (mR6 M z g).ms b = getW M.ms b := by
  rw [gR6 H, if_neg (aL_o h), if_neg (aL_o h), if_neg (aL_o h)]
theorem F7_0 : getW (mF7 M z g).ms (aL z 0) = mkw 2 g := by
  show getW (mR6 M z g).ms _ = _
  rw [gR6 H, if_pos rfl]
theorem R5_0 : getW (mR5 M z).ms (aL z 0) = mkw 1 g := by
  rw [gR5 H, if_neg (aL_f (by omega)), if_neg (aL_f (by omega)), H.hd]
theorem gY8 (b : A3) : getW (mY8 M z g).ms b = if b = aL z 0 then mkw 0 (g + 1) else getW (mR6 M z g).ms b := get_store (mayL H.hz ⟨by omega, by omega⟩) b
theorem gG8 (b : A3) : getW (mG8 M z g).ms b = if b = aL z 0 then mkw 4 g else getW (mR6 M z g).ms b := get_store (mayL H.hz ⟨by omega, by omega⟩) b
theorem Y8_o {b : A3} (h : b.1 ≠ 9) : getW (mY8 M z g).ms b = getW M.ms b := by rw [gY8 H, if_neg (aL_o h), R6_o H h]
theorem G8_o {b : A3} (h : b.1 ≠ 9) : getW (mG8 M z g).ms b = getW M.ms b := by rw [gG8 H, if_neg (aL_o h), R6_o H h]
theorem gY11 (b : A3) : getW (mY11 M z g).ms b = if b = aL z 2 then hdN (slI (getW M.ms aF)) 0 else getW (mY8 M z g).ms b := get_store (mayL H.hz ⟨by omega, by omega⟩) b
theorem Y11_F : getW (mY11 M z g).ms aF = getW M.ms aF := by rw [gY11 H, if_neg (aFL z 2), Y8_o H (by decide)]
theorem gY12 (b : A3) : getW (mY12 M z g).ms b = if b = aF then hdN z (tgN (getW M.ms aF) + 1) else getW (mY11 M z g).ms b := get_cas mayF (Y11_F H) b
theorem gG10 (b : A3) : getW (mG10 M z g).ms b = if b = aPk then getW M.ms aPk + 1 else getW (mG8 M z g).ms b := by
  unfold mG10
  exact get_cas (M := mG9 M z g) mayPk (show getW (mG8 M z g).ms aPk = _ from G8_o H (by decide)) b
theorem l1 : Lt (mR1 M) := H.lt
theorem l2 : Lt (mR2 M) := H.lt
theorem l3 : Lt (mR3 M z) := H.lt
theorem l4 : Lt (mR4 M z) := (l3 H).store _ (H.lt _)
theorem l5 : Lt (mR5 M z) := (l4 H).store _ (H.lt _)
theorem l6 : Lt (mR6 M z g) := (l5 H).store _ (mkw_l (by omega) H.hg H.hm)
theorem l7 : Lt (mF7 M z g) := l6 H
theorem w1 : Lw (mR1 M) := H.lt.wload _
theorem w2 : Lw (mR2 M) := H.lt.wload _
theorem w3 : Lw (mR3 M z) := H.lt.wload _
theorem w4 : Lw (mR4 M z) := (l3 H).wstore _ (H.lt _)
theorem w5 : Lw (mR5 M z) := (l4 H).wstore _ (H.lt _)
theorem w6 : Lw (mR6 M z g) := (l5 H).wstore _ (mkw_l (by omega) H.hg H.hm)
theorem w7 : Lw (mF7 M z g) := (l6 H).wload _
theorem ly8 : Lt (mY8 M z g) := (l7 H).store _ (mkw_lt (by omega) (by have := H.hg; have := H.hm; omega))
theorem ly9 : Lt (mY9 M z g) := ly8 H
theorem ly10 : Lt (mY10 M z g) := ly8 H
theorem ly11 : Lt (mY11 M z g) := (ly10 H).store _ (hdN_lt _ _)
theorem ly12 : Lt (mY12 M z g) := (ly11 H).cas _ _ (hdN_lt _ _)
theorem wy8 : Lw (mY8 M z g) := (l7 H).wstore _ (mkw_lt (by omega) (by have := H.hg; have := H.hm; omega))
theorem wy9 : Lw (mY9 M z g) := (ly8 H).wload _
theorem wy10 : Lw (mY10 M z g) := (ly9 H).wload _
theorem wy11 : Lw (mY11 M z g) := (ly10 H).wstore _ (hdN_lt _ _)
theorem wy12 : Lw (mY12 M z g) := (ly11 H).wcas _ _ (hdN_lt _ _)
theorem lg8 : Lt (mG8 M z g) := (l7 H).store _ (mkw_l (by omega) H.hg H.hm)
theorem lg9 : Lt (mG9 M z g) := lg8 H
theorem lg10 : Lt (mG10 M z g) := (lg9 H).cas _ _ H.pk
theorem wg8 : Lw (mG8 M z g) := (l7 H).wstore _ (mkw_l (by omega) H.hg H.hm)
theorem wg9 : Lw (mG9 M z g) := (lg8 H).wload _
theorem wg10 : Lw (mG10 M z g) := (lg9 H).wcas _ _ H.pk
omit H in
theorem mkw_ne {s t a b : Nat} (hs : s ≤ 4) (ht : t ≤ 4) (_ : a < 4294967296) (_ : b < 4294967296) (h : s ≠ t) : mkw s a ≠ mkw t b := fun e => h (by rw [← Go.Proofs.YtimnagafechmbaaGreatDoor.ghostsArena.hs_mkw hs (g := a), e, Go.Proofs.YtimnagafechmbaaGreatDoor.ghostsArena.hs_mkw ht])
omit H in
theorem f1 (x y : Bool) : stF (acM (mR1 M)) mo x y = 0 := st_load _ _ _ _ _
omit H in
theorem f2 (x y : Bool) : stF (acM (mR2 M)) mo x y = 0 := st_load _ _ _ _ _
omit H in
theorem f3 (x y : Bool) : stF (acM (mR3 M z)) mo x y = 0 := st_load _ _ _ _ _
omit H in
theorem f4 (x y : Bool) : stF (acM (mR4 M z)) mo x y = 0 := st_field _ _ _ _ (by omega) _ _ _
omit H in
theorem f5 (x y : Bool) : stF (acM (mR5 M z)) mo x y = 0 := st_field _ _ _ _ (by omega) _ _ _
theorem f6 (x y : Bool) : stF (acM (mR6 M z g)) mo x y = 0 := by
  have hm := H.hm
  have := H.hg
  unfold mR6
  rw [st_head H.hz (R5_0 H) (mkw_ne (by omega) (by omega) (by omega) (by omega) (by omega)), of_12 H.hg (by omega)]
  simp
omit H in
theorem f7 (x y : Bool) : stF (acM (mF7 M z g)) mo x y = 0 := st_load _ _ _ _ _
theorem fy8 (hlt : g < mo) (x y : Bool) : stF (acM (mY8 M z g)) mo x y = if x = true then 2 else 0 := by
  have hm := H.hm
  unfold mY8
  rw [st_head H.hz (F7_0 H) (mkw_ne (by omega) (by omega) (by omega) (by omega) (by omega)), of_20 hlt (by omega)]
  simp
theorem fg8 (he : g = mo) (x y : Bool) : stF (acM (mG8 M z g)) mo x y = if x = true then 2 else 0 := by
  have hm := H.hm
  unfold mG8
  rw [st_head H.hz (F7_0 H) (mkw_ne (by omega) (by omega) (by omega) (by omega) (by omega)), he, of_24 (by omega)]
  simp
omit H in
theorem fy9 (x y : Bool) : stF (acM (mY9 M z g)) mo x y = 0 := st_load _ _ _ _ _
omit H in
theorem fy10 (x y : Bool) : stF (acM (mY10 M z g)) mo x y = 0 := st_load _ _ _ _ _
omit H in
theorem fy11 (x y : Bool) : stF (acM (mY11 M z g)) mo x y = 0 := st_field _ _ _ _ (by omega) _ _ _
omit H in
theorem fy12 (x y : Bool) : stF (acM (mY12 M z g)) mo x y = 0 := st_casF _ _ _ _ _ _
omit H in
theorem fg9 (x y : Bool) : stF (acM (mG9 M z g)) mo x y = 0 := st_load _ _ _ _ _
omit H in
theorem fg10 (x y : Bool) : stF (acM (mG10 M z g)) mo x y = 0 := st_casP _ _ _ _ _ _
end
/-! ### the finding of a step, as a call -/
section
variable {a : Ac} {m : Nat} {s : AS} {xo : Nat} {g : Gh}
theorem nil0 (hst : ∀ y, stF a m false y = 0) (hw : a.wa < 18446744073709551616 ∧ a.nw < 18446744073709551616) (hm : m < 4294967295) (hS : hasG s G2 = true) :
    Sound Tryz.prog (.call 23 [.agg (acC a), .nilSlice, .int .u32 (Int.ofNat m)] s) ⟨.ret, [.int .u8 (Int.ofNat 0)], s⟩ := by
  have := step_nil a m hw.1 hw.2 (by omega) (fun h => by
    have h2 := hst true
    unfold stF at h2
    rw [if_neg (by unfold hdrB; simp [h.1]), if_pos ⟨h.1, h.2.1, h.2.2.1, h.2.2.2, rfl⟩] at h2
    omega) s hS
  rwa [hst false] at this
theorem one0 (hst : ∀ x y, stF a m x y = 0) (hw : a.wa < 18446744073709551616 ∧ a.nw < 18446744073709551616) (hm : m < 4294967295) (hsl : g.sl < 9223372036854775808) (h0 : ∃ ro, s.get 0 = some (.cells ro wf)) (h1 : ∃ ro, s.get 1 = some (.cells ro lf)) (ho : ∃ ro, s.get xo = some (.cells ro (ghC g))) :
    Sound Tryz.prog (.call 23 [.agg (acC a), .slice xo 0 1 1, .int .u32 (Int.ofNat m)] s) ⟨.ret, [.int .u8 (Int.ofNat 0)], s⟩ := by
  have := step_one a m g hsl hw.1 hw.2 (by omega) h0 h1 ho
  rwa [hst] at this
theorem one2 (hst : ∀ x y, stF a m x y = if x = true then 2 else 0) (hh : holdP a.pl (hg a.wa) g = true) (hw : a.wa < 18446744073709551616 ∧ a.nw < 18446744073709551616) (hm : m < 4294967295) (hsl : g.sl < 9223372036854775808) (h0 : ∃ ro, s.get 0 = some (.cells ro wf)) (h1 : ∃ ro, s.get 1 = some (.cells ro lf)) (ho : ∃ ro, s.get xo = some (.cells ro (ghC g))) :
    Sound Tryz.prog (.call 23 [.agg (acC a), .slice xo 0 1 1, .int .u32 (Int.ofNat m)] s) ⟨.ret, [.int .u8 (Int.ofNat 2)], s⟩ := by
  have := step_one a m g hsl hw.1 hw.2 (by omega) h0 h1 ho
  rwa [hst, if_pos hh] at this
end
/-! ### how the guard's list takes an entry -/
theorem Sound.setSame {P : Program} {f : FuncId} {args vs : List AV} {e : AExit} {s s1 : AS} (h : Sound P (.call f args s) ⟨e, vs, s1⟩) {b : Nat} {o : AObj} (hb : s1.get b = some o) : Sound P (.call f args s) ⟨e, vs, s1.set b o⟩ := by
  intro B ρ cargs w R hc
  refine Calls.mono (h B ρ cargs w R hc) fun en w1 hr => ?_
  obtain ⟨v', u, ρ1, e1, e2, e3, hp⟩ := hr
  have hg : ∀ c, (s1.set b o).get c = s1.get c := fun c => get_set_same hb c
  have hk : keysOf (s1.set b o) = keysOf s1 := setB_keys _ _ _
  refine ⟨v', u, ρ1, e1, e2, e3, ⟨hp.rel.congr hg hk rfl, hp.ext, fun b hb hn => (hg b).trans (hp.unt b hb hn), ⟨hp.shape.nx, ?_, ?_⟩, hp.size⟩⟩
  · obtain ⟨ks, h1, h2, h3⟩ := hp.shape.keys
    exact ⟨ks, hk.trans h1, h2, h3⟩
  · obtain ⟨l, h1, h2⟩ := hp.shape.log
    refine ⟨b :: l, ?_, fun c hc hn => (hg c).trans (h2 c hc fun hm => hn (List.mem_cons_of_mem _ hm))⟩
    show b :: s1.h.wr = _
    rw [h1]
    rfl
def ph : AObj := .cells false []
def S6 (M : PM) (z : Int) (g bi ep er : Nat) (oL oh oe o9 o10 oo : AObj) (W : List Nat) : AS :=
  ⟨⟨[(11, .cells false (Rcl 4 6 z g bi ep er)), (10, o10), (9, o9), (2, .cells false (M.C (.map 3))), (3, mapO M.ms), (4, .cells false (gcl 5)), (5, oL), (6, oh), (7, oe), (8, oo), (0, .cells true wf), (1, .cells true lf)], 12, none, W⟩, 12⟩
def T6 (M : PM) (z : Int) (g bi ep er : Nat) (oL1 oh1 oe1 p1 p2 o9 o10 oo : AObj) (W : List Nat) : AS :=
  ⟨⟨[(13, p2), (12, p1), (11, .cells false (Rcl 4 0 z g bi ep er)), (10, o10), (9, o9), (2, .cells false ((M.store (aL z 0) (mkw 2 g)).C (.map 3))), (3, mapO (M.store (aL z 0) (mkw 2 g)).ms), (4, .cells false (gcl 5)), (5, oL1), (6, oh1), (7, oe1), (8, oo), (0, .cells true wf), (1, .cells true lf)], 14, none, 7 :: 6 :: 5 :: 4 :: 11 :: 3 :: 2 :: W⟩, 14⟩
/-- What the guard's list makes of an entry. -/
def Take (z : Int) (g bi ep er : Nat) (oL oh oe oL1 oh1 oe1 p1 p2 : AObj) : Prop :=
  ∀ (M : PM) (o9 o10 oo : AObj) (W : List Nat), Sound Tryz.prog (.call 63 [.ptr 11 0, .ptr 2 0] (S6 M z g bi ep er oL oh oe o9 o10 oo W)) ⟨.ret, [.bool true], escTo (T6 M z g bi ep er oL1 oh1 oe1 p1 p2 o9 o10 oo W) 5⟩
theorem take_a (z : Int) (g bi ep er : Nat) (hz : 0 ≤ z ∧ z < 8) (hg : g < 4294967296) : Take z g bi ep er (.cells false [.nilSlice, .nilMap]) ph ph (.cells false [.osl 13 0 1 6, .map 12]) ph ph (hadO [(z, g)]) (.cells false (Ecl z g bi ep er)) := by
  intro M o9 o10 oo W
  have h := rs6a_at (s := S6 M z g bi ep er (.cells false [.nilSlice, .nilMap]) ph ph o9 o10 oo W) (b := 2) (bm := 3) (xa := 11) (xg := 4) (xl := 5) (M := M) (z := z) (g0 := g) (bi := bi) (ep := ep) (er := er) ⟨⟨_, rfl⟩, ⟨_, rfl⟩, by decide, by decide⟩ rfl rfl rfl rfl rfl (by omega) hg
  have h2 := Sound.setSame (Sound.setSame h (b := 6) (o := ph) rfl) (b := 7) (o := ph) rfl
  exact Sound.escTo h2 5
theorem take_b (z : Int) (g bi ep er : Nat) (hz : 0 ≤ z ∧ z < 8) (hg : g < 4294967296) (l : List (Int × Nat)) (R : List AV) (hR : R.length = l.length * 6) (ho : R.all AV.one = true) (hn : namess (fun _ => false) R = true) (hk : l.length < 16777216) (hnew : (z, g) ∉ l) :
    Take z g bi ep er (.cells false [.osl 7 0 l.length 6, .map 6]) (hadO l) (.cells false R) (.cells false [.osl 12 0 (l.length + 1) 6, .map 6]) (hadO (l ++ [(z, g)])) .dead (.cells false (R ++ Ecl z g bi ep er)) ph := by
  intro M o9 o10 oo W
  have h := rs6b_at (s := S6 M z g bi ep er (.cells false [.osl 7 0 l.length 6, .map 6]) (hadO l) (.cells false R) o9 o10 oo W) (b := 2) (bm := 3) (xa := 11) (xg := 4) (xl := 5) (bh := 6) (be := 7) (M := M) (z := z) (g0 := g) (bi := bi) (ep := ep) (er := er) (l := l) (R := R) ⟨⟨_, rfl⟩, ⟨_, rfl⟩, by decide, by decide⟩ rfl rfl rfl rfl rfl rfl rfl hR ho hn hk (by omega) hg hnew
  exact Sound.escTo (Sound.ghost ph h) 5
theorem take_c (z : Int) (g bi ep er : Nat) (hz : 0 ≤ z ∧ z < 8) (hg : g < 4294967296) (l : List (Int × Nat)) (R : List AV) (hn : namess (fun _ => false) R = true) (hold : (z, g) ∈ l) :
    Take z g bi ep er (.cells false [.osl 7 0 l.length 6, .map 6]) (hadO l) (.cells false R) (.cells false [.osl 7 0 l.length 6, .map 6]) (hadO l) (.cells false R) ph ph := by
  intro M o9 o10 oo W
  have h := rs6c_at (s := S6 M z g bi ep er (.cells false [.osl 7 0 l.length 6, .map 6]) (hadO l) (.cells false R) o9 o10 oo W) (b := 2) (bm := 3) (xa := 11) (xg := 4) (xl := 5) (bh := 6) (be := 7) (M := M) (z := z) (g0 := g) (bi := bi) (ep := ep) (er := er) (l := l) (R := R) ⟨⟨_, rfl⟩, ⟨_, rfl⟩, by decide, by decide⟩ rfl rfl rfl rfl rfl rfl rfl hn (by omega) hg hold
  exact Sound.escTo (Sound.ghost ph (Sound.ghost ph h)) 5
end Go.Proofs.YtimnagafechmbaaGreatDoor.ghostsArena
