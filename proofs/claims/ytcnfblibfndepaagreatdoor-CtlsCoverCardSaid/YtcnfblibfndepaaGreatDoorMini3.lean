/- An interpreter of our own, on abstract values, and the proof that what it says of a call is so in the model (part 3 of 3); under the conditions that its theorems name, and no others. -/
import Derived.KernelRfl
import Derived.Test.YtcnfblibfndepaaGreatDoorMini2
namespace Go.Mini
open Go Go.RowKit

/-! ### rows that grow by append, one element at a time -/
section
variable {P : Program}
theorem rens_no {π : Nat → Nat} {l : List AV} (h : namess (fun _ => false) l = true) : rens π l = l := by
  rw [rens_congr (p := fun _ => false) (π' := fun b => b) (fun _ h => by cases h) h, rens_id]
mutual
theorem names_sub {p q : Nat → Bool} (hpq : ∀ b, p b = true → q b = true) : ∀ {a : AV}, a.names p = true → a.names q = true
  | .bool _, _ => rfl
  | .int _ _, _ => rfl
  | .str _, _ => rfl
  | .nilPtr, _ => rfl
  | .ptr _ _, h => hpq _ h
  | .nilSlice, _ => rfl
  | .slice _ _ _ _, h => hpq _ h
  | .osl _ _ _ _, h => hpq _ h
  | .nilMap, _ => rfl
  | .map _, h => hpq _ h
  | .func _ fs cs, h => by
    simp only [AV.names, Bool.and_eq_true] at h ⊢
    exact ⟨namess_sub hpq h.1, namess_sub hpq h.2⟩
  | .nilFunc, _ => rfl
  | .iface _ x, h => by
    simp only [AV.names] at h ⊢
    exact names_sub hpq h
  | .nilIface, _ => rfl
  | .agg cs, h => by
    simp only [AV.names] at h ⊢
    exact namess_sub hpq h
  | .tuple cs, h => by
    simp only [AV.names] at h ⊢
    exact namess_sub hpq h
theorem namess_sub {p q : Nat → Bool} (hpq : ∀ b, p b = true → q b = true) : ∀ {l : List AV}, namess p l = true → namess q l = true
  | [], _ => rfl
  | a :: l, h => by
    simp only [namess, Bool.and_eq_true] at h ⊢
    exact ⟨names_sub hpq h.1, namess_sub hpq h.2⟩
end
theorem namesE_sub {p q : Nat → Bool} (hpq : ∀ b, p b = true → q b = true) : ∀ {l : List (AV × AV)}, namesE p l = true → namesE q l = true
  | [], _ => rfl
  | (k, v) :: l, h => by
    simp only [namesE, Bool.and_eq_true] at h ⊢
    exact ⟨⟨names_sub hpq h.1.1, names_sub hpq h.1.2⟩, namesE_sub hpq h.2⟩
theorem onames_sub {p q : Nat → Bool} (hpq : ∀ b, p b = true → q b = true) {o : AObj} (h : o.names p = true) : o.names q = true := by
  cases o with
  | cells ro cs => exact namess_sub hpq h
  | map es bn ck => exact namesE_sub hpq h
  | dead => rfl

theorem getB_cons {b n : Nat} {o : AObj} {t : List (Nat × AObj)} : getB ((n, o) :: t) b = if n = b then some o else getB t b := by
  simp only [getB]
  by_cases h : n = b
  · rw [if_pos h, if_pos (by rw [h]; exact Nat.beq_refl _)]
  · rw [if_neg h, if_neg (fun e => h (Nat.eq_of_beq_eq_true e))]

end
end Go.Mini

namespace Go.Mini
open Go Go.RowKit

/-! ### calls: what was written ahead does not matter; names that are passed over -/
section
variable {P : Program}
theorem Sound.skip {f : FuncId} {args : List AV} {r : Res} {h : AH} {nx n : Nat} (hs : Sound P (.call f args ⟨h, n⟩) r) (hn : nx ≤ n) : Sound P (.call f args ⟨h, nx⟩) r := by
  intro B ρ cargs w R hc
  have R' : Rel P B ρ ⟨h, n⟩ w := ⟨R.below, R.glob, fun b hb => R.fresh b (Nat.le_trans hn hb), fun k hk => Nat.lt_of_lt_of_le (R.keys k hk) hn, R.lt, R.obj, R.own, R.ros, R.inj⟩
  refine Calls.mono (hs B ρ cargs w R' hc) fun en w1 hr => ?_
  obtain ⟨v', u, ρ1, e1, e2, e3, hp⟩ := hr
  refine ⟨v', u, ρ1, e1, e2, e3, ⟨hp.rel, fun b hb => hp.ext b (Nat.lt_of_lt_of_le hb hn), fun b hb => hp.unt b (Nat.lt_of_lt_of_le hb hn), ⟨Nat.le_trans hn hp.shape.nx, ?_, ?_⟩, hp.size⟩⟩
  · obtain ⟨ks, h1, h2, h3⟩ := hp.shape.keys
    exact ⟨ks, h1, h2, fun k hk => ⟨Nat.le_trans hn (h3 k hk).1, (h3 k hk).2⟩⟩
  · obtain ⟨l, h1, h2⟩ := hp.shape.log
    exact ⟨l, h1, fun b hb => h2 b (Nat.lt_of_lt_of_le hb hn)⟩

/-- Blocks that a call's caller's callers know: names below n, and each as it stands. -/
def Olds (n : Nat) (bs : List (Nat × AObj)) : Prop := eachB (fun b o => b < n ∧ o.names (fun c => Nat.blt c n) = true ∧ getB bs b = some o) bs
theorem eachB_mono {f g : Nat → AObj → Prop} (h : ∀ b o, f b o → g b o) : ∀ {bs : List (Nat × AObj)}, eachB f bs → eachB g bs
  | [], _ => trivial
  | _ :: _, hx => ⟨h _ _ hx.1, eachB_mono h hx.2⟩
theorem onames_lt {o : AObj} {n m : Nat} (h : o.names (fun c => Nat.blt c n) = true) (hn : n ≤ m) : o.names (fun c => Nat.blt c m) = true :=
  onames_sub (fun b hb => by
    have : b < n := by simpa using hb
    simpa using (show b < m by omega)) h
theorem Olds.each {n m : Nat} {bs : List (Nat × AObj)} {s1 : AS} (h : Olds n bs) (hm : n ≤ m) (hs : ∀ b, b < n → s1.get b = getB bs b) : eachB (fun b o => o.names (fun c => Nat.blt c m) = true ∧ s1.get b = some o) bs :=
  eachB_mono (fun b _ hb => ⟨onames_lt hb.2.1 hm, (hs b hb.1).trans hb.2.2⟩) h
end
end Go.Mini

namespace Go.Mini
open Go Go.RowKit

/-! ### a frame for code: what is so of a small state is so wherever its blocks lie -/
section
variable {P : Program}
theorem Placed.post {s0 s1 s : AS} {π π' : Nat → Nat} {foot new : List Nat} {p : Nat → Bool} (H : Placed P s0 s1 s π π' foot new p) {B : Base} {ρ : Ren} {w : World} (R : Rel P B ρ s w) :
    ∃ (B0 : Base) (ρ0 : Ren), Rel P B0 ρ0 s0 w ∧ (∀ b L, (fun b => Nat.blt b s0.nx) b = true → ρ (π b) = some L → ρ0 b = some L) ∧
      ∀ (ρ1 : Ren) (w' : World), Post P B0 ρ0 s0 w ρ1 s1 w' → ∃ ρ2 : Ren, Post P B ρ s w ρ2 (pushL (setL s (foot.map fun b => (π b, (objAt s1 b).ren π'))) (new.map fun b => (objAt s1 b).ren π')) w' ∧ ∀ b L, p b = true → ρ1 b = some L → ρ2 (π' b) = some L := by
  have lt : ∀ {b : Nat}, Nat.blt b s0.nx = true → b < s0.nx := fun h => by simpa using h
  -- the callee's view
  let F : Nat → Prop := fun k => ∃ b ∈ foot, ∃ L, ρ (π b) = some L ∧ L.c = k
  let B0 : Base := ⟨w, fun k => k < w.heap.size ∧ ¬ F k, fun _ h => h.1⟩
  let ρ0 : Ren := fun b => if b < s0.nx then ρ (π b) else none
  have inv : ∀ {b L}, ρ0 b = some L → b < s0.nx ∧ ρ (π b) = some L := by
    intro b L h
    simp only [ρ0] at h
    split at h
    · exact ⟨‹_›, h⟩
    · cases h
  have mk : ∀ {b}, b < s0.nx → ρ0 b = ρ (π b) := fun h => if_pos h
  have footF : ∀ {b L}, b ∈ foot → ρ (π b) = some L → F L.c := fun hb hL => ⟨_, hb, _, hL, rfl⟩
  have footK : ∀ {k}, F k → ¬ B.K k := by
    rintro k ⟨b, hb, L, hL, rfl⟩
    obtain ⟨o, _, hr, _, hs⟩ := H.rw b hb
    exact R.own _ _ L hs (by simpa using hr) hL
  have footKey : ∀ {b}, b ∈ foot → b < s0.nx := fun hb => by
    obtain ⟨o, hs, _⟩ := H.rw _ hb
    exact H.keys _ (getB_mem hs)
  have isFoot : ∀ {b o}, s0.get b = some o → o.rw = true → b ∈ foot := by
    intro b o hs hr
    by_cases hb : b ∈ foot
    · exact hb
    · obtain ⟨cs, ro, rfl, _⟩ := H.ro b o hs hb
      simp [AObj.rw] at hr
  have bk : ∀ b L, (fun b => Nat.blt b s0.nx) b = true → ρ (π b) = some L → ρ0 b = some L := fun b L hb hL => by rw [mk (lt hb)]; exact hL
  have R0 : Rel P B0 ρ0 s0 w := by
    refine ⟨.refl _ _, fun g hg => ?_, fun b hb => if_neg (Nat.not_lt.2 hb), H.keys, fun b L hb => R.lt _ L (inv hb).2, fun b o L hb hL => ?_, fun b o L hb hr hL hK => hK.2 (footF (isFoot hb hr) (inv hL).2), fun b cs L hb hL => ⟨R.lt _ L (inv hL).2, ?_⟩, fun b b' o o' L L' hb hb' hr hr' hL hL' he => ?_⟩
    · obtain ⟨h1, h2⟩ := H.glob g hg
      rw [mk h1, h2]
      exact R.glob g hg
    · by_cases hf : b ∈ foot
      · obtain ⟨o', h1, _, h3, h4⟩ := H.rw b hf
        rw [hb] at h1
        simp only [Option.some.injEq] at h1
        subst h1
        obtain ⟨c, k1, k2⟩ := R.obj _ _ L h4 (inv hL).2
        exact ⟨c, k1, OO.back (p := fun b => Nat.blt b s0.nx) bk h3 k2⟩
      · obtain ⟨cs, ro, rfl, hn, hs, _⟩ := H.ro b o hb hf
        obtain ⟨c, hc1, arr, el, fz, rfl, h2, _, vs, h4, h5⟩ := R.obj _ _ _ hs (inv hL).2
        exact ⟨_, hc1, arr, el, fz, rfl, h2, by simp, vs, VRels.back (p := fun b => Nat.blt b s0.nx) bk hn h4, h5⟩
    · rintro ⟨c, hcf, L', hL', he⟩
      have hbf : b ∉ foot := fun hf => by
        obtain ⟨o', h1, h2, _⟩ := H.rw b hf
        rw [hb] at h1
        simp only [Option.some.injEq] at h1
        subst h1
        simp [AObj.rw] at h2
      obtain ⟨cs', ro, _, _, hs, hne⟩ := H.ro b _ hb hbf
      obtain ⟨oc, _, hr, _, hsc⟩ := H.rw c hcf
      cases ro with
      | false => exact hne c hcf (R.inj _ _ _ _ L' L hsc hs (by simpa using hr) rfl hL' (inv hL).2 he)
      | true => exact footK ⟨c, hcf, L', hL', rfl⟩ (he ▸ R.ros _ _ L hs (inv hL).2)
    · have f1 := isFoot hb hr
      have f2 := isFoot hb' hr'
      obtain ⟨_, _, q1, _, q2⟩ := H.rw b f1
      obtain ⟨_, _, q3, _, q4⟩ := H.rw b' f2
      exact H.inj b f1 b' f2 (R.inj _ _ _ _ L L' q2 q4 (by simpa using q1) (by simpa using q3) (inv hL).2 (inv hL').2 he)
  refine ⟨B0, ρ0, R0, bk, fun ρ1 w' e4 => ?_⟩
  have R1 := e4.rel
  -- behind it
  let ρ2 : Ren := fun b => if b < s.nx then ρ b else (new[b - s.nx]?).bind ρ1
  have ext2 : ∀ b, b < s.nx → ρ2 b = ρ b := fun b hb => if_pos hb
  have mono2 := ext_mono R.fresh ext2
  have new2 : ∀ i b, new[i]? = some b → ρ2 (s.nx + i) = ρ1 b := by
    intro i b hi
    simp only [ρ2]
    rw [if_neg (by omega), show s.nx + i - s.nx = i from by omega, hi]
    rfl
  have re : ∀ b L, p b = true → ρ1 b = some L → ρ2 (π' b) = some L := by
    intro b L hp hL
    rcases H.names b hp with hb | hb
    · rw [e4.ext b hb, mk hb] at hL
      rw [H.low b hb]
      exact mono2 _ _ hL
    · obtain ⟨i, hi⟩ := List.getElem?_of_mem hb
      rw [H.high i b hi, new2 i b hi]
      exact hL
  have hsh : Shape s (pushL (setL s (foot.map fun b => (π b, (objAt s1 b).ren π'))) (new.map fun b => (objAt s1 b).ren π')) := (setL_shape _ _).trans (pushL_shape _ _)
  have hnx : (pushL (setL s (foot.map fun b => (π b, (objAt s1 b).ren π'))) (new.map fun b => (objAt s1 b).ren π')).nx = s.nx + new.length := by rw [pushL_nx, setL_nx]; simp
  have hnd : ((foot.map fun b => (π b, (objAt s1 b).ren π')).map (·.1)).Nodup := by
    rw [List.map_map]
    exact nodup_map_on (fun b hb c hc' he => H.inj b hb c hc' he) H.nodup
  have getF : ∀ b ∈ foot, (pushL (setL s (foot.map fun b => (π b, (objAt s1 b).ren π'))) (new.map fun b => (objAt s1 b).ren π')).get (π b) = some ((objAt s1 b).ren π') := by
    intro b hb
    obtain ⟨o, _, _, _, hs⟩ := H.rw b hb
    rw [pushL_old (by rw [setL_nx]; exact R.key_lt hs)]
    exact setL_at hnd (List.mem_map.2 ⟨b, hb, rfl⟩) hs
  have getO : ∀ b, b < s.nx → (∀ c ∈ foot, π c ≠ b) → (pushL (setL s (foot.map fun b => (π b, (objAt s1 b).ren π'))) (new.map fun b => (objAt s1 b).ren π')).get b = s.get b := by
    intro b hb hne
    rw [pushL_old (by rw [setL_nx]; exact hb)]
    refine setL_other fun hm => ?_
    rw [List.map_map] at hm
    obtain ⟨c, hcf, he⟩ := List.mem_map.1 hm
    exact hne c hcf he
  have getN : ∀ i b, new[i]? = some b → (pushL (setL s (foot.map fun b => (π b, (objAt s1 b).ren π'))) (new.map fun b => (objAt s1 b).ren π')).get (s.nx + i) = some ((objAt s1 b).ren π') := by
    intro i b hi
    have := pushL_new (l := new.map fun b => (objAt s1 b).ren π') (s := setL s (foot.map fun b => (π b, (objAt s1 b).ren π'))) (i := i) (o := (objAt s1 b).ren π') (by rw [List.getElem?_map, hi]; rfl)
    rw [setL_nx] at this
    exact this
  have keys' : ∀ b ∈ keysOf (pushL (setL s (foot.map fun b => (π b, (objAt s1 b).ren π'))) (new.map fun b => (objAt s1 b).ren π')), b < s.nx + new.length := by
    intro b hb
    obtain ⟨ks, h1, _, h3⟩ := hsh.keys
    rw [h1] at hb
    rcases List.mem_append.1 hb with hb | hb
    · have := (h3 b hb).2
      rw [hnx] at this
      exact this
    · have : b < s.nx := R.keys b hb
      omega
  have from_ : ∀ b o, (pushL (setL s (foot.map fun b => (π b, (objAt s1 b).ren π'))) (new.map fun b => (objAt s1 b).ren π')).get b = some o →
      (∃ c ∈ foot, b = π c ∧ o = (objAt s1 c).ren π') ∨ (b < s.nx ∧ (∀ c ∈ foot, π c ≠ b) ∧ s.get b = some o) ∨ (∃ i c, new[i]? = some c ∧ b = s.nx + i ∧ o = (objAt s1 c).ren π') := by
    intro b o hb
    have hlt := keys' b (getB_mem hb)
    by_cases hbs : b < s.nx
    · by_cases hex : ∃ c ∈ foot, π c = b
      · obtain ⟨c, hcf, rfl⟩ := hex
        rw [getF c hcf] at hb
        simp only [Option.some.injEq] at hb
        exact .inl ⟨c, hcf, rfl, hb.symm⟩
      · have hne : ∀ c ∈ foot, π c ≠ b := fun c hcf he => hex ⟨c, hcf, he⟩
        rw [getO b hbs hne] at hb
        exact .inr (.inl ⟨hbs, hne, hb⟩)
    · have hi : b - s.nx < new.length := by omega
      have hget : new[b - s.nx]? = some new[b - s.nx] := List.getElem?_eq_getElem hi
      have hb' := getN _ _ hget
      rw [show s.nx + (b - s.nx) = b from by omega, hb] at hb'
      simp only [Option.some.injEq] at hb'
      exact .inr (.inr ⟨b - s.nx, _, hget, by omega, hb'⟩)
  have objR : ∀ c L, (objAt s1 c).names p = true → ρ1 c = some L → OM ρ2 ((objAt s1 c).ren π') L w' := by
    intro c L hp hL
    cases hs : s1.get c with
    | none =>
      have : objAt s1 c = .dead := by simp [objAt, hs]
      rw [this]
      exact ⟨_, Array.getElem?_eq_getElem (R1.lt c L hL), trivial⟩
    | some o =>
      have : objAt s1 c = o := by simp [objAt, hs]
      rw [this] at hp ⊢
      obtain ⟨k, k1, k2⟩ := R1.obj c o L hs hL
      exact ⟨k, k1, k2.re re hp⟩
  have some1 : ∀ c, (objAt s1 c).rw = true → s1.get c = some (objAt s1 c) := by
    intro c hr
    cases hs : s1.get c with
    | none => simp [objAt, hs, AObj.rw] at hr
    | some o => simp [objAt, hs]
  have foot1 : ∀ c ∈ foot, ρ1 c = ρ (π c) := fun c hcf => by rw [e4.ext c (footKey hcf), mk (footKey hcf)]
  have newF : ∀ c ∈ new, ∀ L, ρ1 c = some L → ¬ (L.c < w.heap.size ∧ ¬ F L.c) := fun c hcn L hL => R1.own c _ L (some1 c (H.fresh c hcn).2.1) (H.fresh c hcn).2.1 hL
  have footLt : ∀ c ∈ foot, π c < s.nx := fun c hcf => by
    obtain ⟨o, _, _, _, hs⟩ := H.rw c hcf
    exact R.key_lt hs
  have oldNew : ∀ {x y i c : Nat} {o : AObj} {Lx Ly : Loc}, (pushL (setL s (foot.map fun b => (π b, (objAt s1 b).ren π'))) (new.map fun b => (objAt s1 b).ren π')).get x = some o → o.rw = true → x < s.nx → new[i]? = some c → y = s.nx + i → ρ2 x = some Lx → ρ2 y = some Ly → Lx.c = Ly.c → False := by
    intro x y i c o Lx Ly hx hr hxs hi hy hLx hLy he
    subst hy
    rw [ext2 x hxs] at hLx
    rw [new2 i c hi] at hLy
    have hcn : c ∈ new := List.mem_of_getElem? hi
    have hno := newF c hcn Ly hLy
    have hlx := R.lt x Lx hLx
    have hF : F Ly.c := by
      by_cases hF : F Ly.c
      · exact hF
      · exact absurd ⟨by omega, hF⟩ hno
    obtain ⟨c2, hc2, L2, hL2, he2⟩ := hF
    obtain ⟨oc, hs0, hr2, _, hsc⟩ := H.rw c2 hc2
    rcases from_ x o hx with ⟨c3, hc3, rfl, rfl⟩ | ⟨_, hne, hsx⟩ | ⟨j, _, _, hj, _⟩
    · obtain ⟨oc3, _, hr3, _, hsc3⟩ := H.rw c3 hc3
      have : c2 = c3 := H.inj c2 hc2 c3 hc3 (R.inj _ _ _ _ L2 Lx hsc hsc3 (by simpa using hr2) (by simpa using hr3) hL2 hLx (by rw [he2, he]))
      subst this
      have hr1 : (objAt s1 c2).rw = true := by simpa using hr
      have := R1.inj c2 c _ _ Lx Ly (some1 c2 hr1) (some1 c (H.fresh c hcn).2.1) hr1 (H.fresh c hcn).2.1 (by rw [foot1 c2 hc2]; exact hLx) hLy he
      have h1 := footKey hc2
      have h2 := (H.fresh c hcn).1
      omega
    · exact hne c2 hc2 (R.inj _ _ _ _ L2 Lx hsc hsx (by simpa using hr2) hr hL2 hLx (by rw [he2, he]))
    · omega
  refine ⟨ρ2, ⟨⟨?_, ?_, ?_, ?_, ?_, ?_, ?_, ?_, ?_⟩, ext2, ?_, hsh, e4.size⟩, re⟩
  · have hk := R1.below
    exact R.below.trans ⟨hk.os, hk.tape, hk.output, hk.size, fun k hK => hk.block k ⟨R.K_lt k hK, fun hF => footK hF hK⟩⟩
  · intro g hg
    obtain ⟨M, h1, h2⟩ := R.glob g hg
    exact ⟨M, mono2 _ _ h1, h2⟩
  · intro b hb
    rw [hnx] at hb
    simp only [ρ2]
    rw [if_neg (by omega), List.getElem?_eq_none (by omega)]
    rfl
  · intro k hk
    rw [hnx]
    exact keys' k hk
  · intro b L hL
    by_cases hb : b < s.nx
    · rw [ext2 b hb] at hL
      exact Nat.lt_of_lt_of_le (R.lt b L hL) e4.size
    · simp only [ρ2] at hL
      rw [if_neg hb] at hL
      cases hi : new[b - s.nx]? with
      | none => rw [hi] at hL; cases hL
      | some c =>
        rw [hi] at hL
        exact R1.lt c L hL
  · intro b o L hb hL
    rcases from_ b o hb with ⟨c, hcf, rfl, rfl⟩ | ⟨hbs, hne, hs⟩ | ⟨i, c, hi, rfl, rfl⟩
    · rw [ext2 _ (footLt c hcf)] at hL
      exact objR c L (H.old c hcf).2 (by rw [foot1 c hcf]; exact hL)
    · rw [ext2 b hbs] at hL
      obtain ⟨k, k1, k2⟩ := R.obj b o L hs hL
      have keep : ¬ F L.c → OM ρ2 o L w' := fun hF => ⟨k, by rw [R1.below.block L.c ⟨R.lt b L hL, hF⟩]; exact k1, k2.mono mono2⟩
      cases hr : o.rw with
      | true =>
        refine keep ?_
        rintro ⟨c, hcf, L', hL', he⟩
        obtain ⟨oc, _, hr2, _, hsc⟩ := H.rw c hcf
        exact hne c hcf (R.inj _ _ _ _ L' L hsc hs (by simpa using hr2) hr hL' hL he)
      | false =>
        cases o with
        | cells ro cs =>
          have : ro = true := by simpa [AObj.rw] using hr
          subst this
          exact keep fun hF => footK hF (R.ros b cs L hs hL)
        | map es => simp [AObj.rw] at hr
        | dead => exact ⟨_, Array.getElem?_eq_getElem (Nat.lt_of_lt_of_le (R.lt b L hL) e4.size), trivial⟩
    · rw [new2 i c hi] at hL
      exact objR c L (H.fresh c (List.mem_of_getElem? hi)).2.2 hL
  · intro b o L hb hr hL
    rcases from_ b o hb with ⟨c, hcf, rfl, rfl⟩ | ⟨hbs, hne, hs⟩ | ⟨i, c, hi, rfl, rfl⟩
    · rw [ext2 _ (footLt c hcf)] at hL
      exact footK (footF hcf hL)
    · rw [ext2 b hbs] at hL
      exact R.own b o L hs hr hL
    · rw [new2 i c hi] at hL
      intro hK
      exact newF c (List.mem_of_getElem? hi) L hL ⟨R.K_lt _ hK, fun hF => footK hF hK⟩
  · intro b cs L hb hL
    rcases from_ b _ hb with ⟨c, hcf, rfl, ho⟩ | ⟨hbs, hne, hs⟩ | ⟨i, c, hi, rfl, ho⟩
    · exfalso
      have hq : (objAt s1 c).rw = false := by rw [← ren_rw (π := π'), ← ho]; rfl
      rcases (H.old c hcf).1 with h1 | h1
      · rw [h1] at hq; cases hq
      · rw [h1] at ho; cases ho
    · rw [ext2 b hbs] at hL
      exact R.ros b cs L hs hL
    · exfalso
      have hq : (objAt s1 c).rw = false := by rw [← ren_rw (π := π'), ← ho]; rfl
      rw [(H.fresh c (List.mem_of_getElem? hi)).2.1] at hq
      cases hq
  · intro x y q q' Lx Ly h1 h2 h3 h4 h5 h6 h7
    have old : ∀ {b o}, (pushL (setL s (foot.map fun b => (π b, (objAt s1 b).ren π'))) (new.map fun b => (objAt s1 b).ren π')).get b = some o → o.rw = true → b < s.nx → ∃ o', s.get b = some o' ∧ o'.rw = true := by
      intro b o hb hr hbs
      rcases from_ b o hb with ⟨c, hcf, rfl, rfl⟩ | ⟨_, _, hs⟩ | ⟨i, c, hi, rfl, rfl⟩
      · obtain ⟨oc, _, hr2, _, hsc⟩ := H.rw c hcf
        exact ⟨_, hsc, by simpa using hr2⟩
      · exact ⟨o, hs, hr⟩
      · omega
    have newI : ∀ {b o}, (pushL (setL s (foot.map fun b => (π b, (objAt s1 b).ren π'))) (new.map fun b => (objAt s1 b).ren π')).get b = some o → ¬ b < s.nx → ∃ i c, new[i]? = some c ∧ b = s.nx + i := by
      intro b o hb hbs
      rcases from_ b o hb with ⟨c, hcf, rfl, rfl⟩ | ⟨h, _⟩ | ⟨i, c, hi, rfl, _⟩
      · exact absurd (footLt c hcf) hbs
      · exact absurd h hbs
      · exact ⟨i, c, hi, rfl⟩
    by_cases hx : x < s.nx
    · by_cases hy : y < s.nx
      · obtain ⟨o1, a1, a2⟩ := old h1 h3 hx
        obtain ⟨o2, b1, b2⟩ := old h2 h4 hy
        rw [ext2 x hx] at h5
        rw [ext2 y hy] at h6
        exact R.inj x y o1 o2 Lx Ly a1 b1 a2 b2 h5 h6 h7
      · obtain ⟨i, c, hi, hy'⟩ := newI h2 hy
        exact (oldNew h1 h3 hx hi hy' h5 h6 h7).elim
    · obtain ⟨i, c, hi, hx'⟩ := newI h1 hx
      by_cases hy : y < s.nx
      · exact (oldNew h2 h4 hy hi hx' h6 h5 h7.symm).elim
      · obtain ⟨j, d, hj, hy'⟩ := newI h2 hy
        rw [hx', new2 i c hi] at h5
        rw [hy', new2 j d hj] at h6
        have hc1 := H.fresh c (List.mem_of_getElem? hi)
        have hd1 := H.fresh d (List.mem_of_getElem? hj)
        have := R1.inj c d _ _ Lx Ly (some1 c hc1.2.1) (some1 d hd1.2.1) hc1.2.1 hd1.2.1 h5 h6 h7
        subst this
        have hij : i = j := by
          obtain ⟨hi1, hi2⟩ := List.getElem?_eq_some_iff.1 hi
          obtain ⟨hj1, hj2⟩ := List.getElem?_eq_some_iff.1 hj
          exact (List.getElem_inj H.newNodup).1 (hi2.trans hj2.symm)
        omega
  · intro b hb hn
    by_cases hex : ∃ c ∈ foot, π c = b
    · obtain ⟨c, hcf, rfl⟩ := hex
      obtain ⟨o, hs0, hr, hp, hs⟩ := H.rw c hcf
      rw [getF c hcf, hs]
      have h0 : ρ0 c = none := by rw [mk (footKey hcf)]; exact hn
      have := e4.unt c (footKey hcf) h0
      have hobj : objAt s1 c = o := by simp [objAt, this, hs0]
      rw [hobj, oren_congr (p := fun b => Nat.blt b s0.nx) (fun b hb' => (H.low b (lt hb')).symm) hp]
    · exact getO b hb fun c hcf he => hex ⟨c, hcf, he⟩
/-- Code, in a state where more stands, under other names. -/
theorem Sound.frameC {c : Code} {ts ts1 : List AV} {s0 s1 : AS} {e : AExit} (h : Sound P (.code c ts s0) ⟨e, ts1, s1⟩) {π π' : Nat → Nat} {s : AS} {foot new : List Nat} {p : Nat → Bool}
    (H : Placed P s0 s1 s π π' foot new p) (ha : namess (fun b => Nat.blt b s0.nx) ts = true) (hv : namess p ts1 = true) :
    Sound P (.code c (rens π ts) s) ⟨e, rens π' ts1, pushL (setL s (foot.map fun b => (π b, (objAt s1 b).ren π'))) (new.map fun b => (objAt s1 b).ren π')⟩ := by
  refine ⟨h.1, fun B ρ a w R ht => ?_⟩
  obtain ⟨B0, ρ0, R0, bk, post⟩ := H.post R
  refine wp_mono (h.2 B0 ρ0 a w R0 ⟨VRels.back bk ha ht.rel, ht.df⟩) ?_
  rintro e' a1 w1 ⟨rfl, ρ1, ht1, hp1⟩
  obtain ⟨ρ2, hp2, re⟩ := post ρ1 w1 hp1
  exact ⟨rfl, ρ2, ⟨VRels.re re hv ht1.rel, ht1.df⟩, hp2⟩
end
end Go.Mini

namespace Go.Mini
open Go Go.RowKit

/-! ### names, renamed twice -/
mutual
theorem ren_comp {π π' : Nat → Nat} : ∀ a : AV, (a.ren π).ren π' = a.ren (fun b => π' (π b))
  | .bool _ => rfl
  | .int _ _ => rfl
  | .str _ => rfl
  | .nilPtr => rfl
  | .ptr _ _ => rfl
  | .nilSlice => rfl
  | .slice _ _ _ _ => rfl
  | .osl _ _ _ _ => rfl
  | .nilMap => rfl
  | .map _ => rfl
  | .func _ fs cs => by simp only [AV.ren, rens_comp fs, rens_comp cs]
  | .nilFunc => rfl
  | .iface _ x => by simp only [AV.ren, ren_comp x]
  | .nilIface => rfl
  | .agg cs => by simp only [AV.ren, rens_comp cs]
  | .tuple cs => by simp only [AV.ren, rens_comp cs]
theorem rens_comp {π π' : Nat → Nat} : ∀ l : List AV, rens π' (rens π l) = rens (fun b => π' (π b)) l
  | [] => rfl
  | a :: l => by simp only [rens, ren_comp a, rens_comp l]
end
theorem renE_comp {π π' : Nat → Nat} : ∀ l : List (AV × AV), renE π' (renE π l) = renE (fun b => π' (π b)) l
  | [] => rfl
  | (k, v) :: l => by simp only [renE, ren_comp k, ren_comp v, renE_comp l]
theorem oren_comp {π π' : Nat → Nat} (o : AObj) : (o.ren π).ren π' = o.ren (fun b => π' (π b)) := by
  cases o <;> simp only [AObj.ren, rens_comp, renE_comp]
mutual
theorem names_ren {p q : Nat → Bool} {π : Nat → Nat} (h : ∀ b, q b = true → p (π b) = true) : ∀ a : AV, a.names q = true → (a.ren π).names p = true
  | .bool _, _ => rfl
  | .int _ _, _ => rfl
  | .str _, _ => rfl
  | .nilPtr, _ => rfl
  | .ptr _ _, hq => h _ hq
  | .nilSlice, _ => rfl
  | .slice _ _ _ _, hq => h _ hq
  | .osl _ _ _ _, hq => h _ hq
  | .nilMap, _ => rfl
  | .map _, hq => h _ hq
  | .func _ fs cs, hq => by
    simp only [AV.names, AV.ren, Bool.and_eq_true] at hq ⊢
    exact ⟨namess_ren h fs hq.1, namess_ren h cs hq.2⟩
  | .nilFunc, _ => rfl
  | .iface _ x, hq => by
    simp only [AV.names, AV.ren] at hq ⊢
    exact names_ren h x hq
  | .nilIface, _ => rfl
  | .agg cs, hq => by
    simp only [AV.names, AV.ren] at hq ⊢
    exact namess_ren h cs hq
  | .tuple cs, hq => by
    simp only [AV.names, AV.ren] at hq ⊢
    exact namess_ren h cs hq
theorem namess_ren {p q : Nat → Bool} {π : Nat → Nat} (h : ∀ b, q b = true → p (π b) = true) : ∀ l : List AV, namess q l = true → namess p (rens π l) = true
  | [], _ => rfl
  | a :: l, hq => by
    simp only [namess, rens, Bool.and_eq_true] at hq ⊢
    exact ⟨names_ren h a hq.1, namess_ren h l hq.2⟩
end
theorem namesE_ren {p q : Nat → Bool} {π : Nat → Nat} (h : ∀ b, q b = true → p (π b) = true) : ∀ l : List (AV × AV), namesE q l = true → namesE p (renE π l) = true
  | [], _ => rfl
  | (k, v) :: l, hq => by
    simp only [namesE, renE, Bool.and_eq_true] at hq ⊢
    exact ⟨⟨names_ren h k hq.1.1, names_ren h v hq.1.2⟩, namesE_ren h l hq.2⟩
theorem onames_ren {p q : Nat → Bool} {π : Nat → Nat} (h : ∀ b, q b = true → p (π b) = true) (o : AObj) (hq : o.names q = true) : (o.ren π).names p = true := by
  cases o with
  | cells ro cs => exact namess_ren h cs hq
  | map es bn ck => exact namesE_ren h es hq
  | dead => rfl

/-! ### a canonical state, wherever it lies -/
/-- Fz: the frozen blocks, which keep their names. -/
structure InAt (P : Program) (Fz : List (Nat × List AV)) (C s : AS) (π : Nat → Nat) (foot : List Nat) : Prop where
  glob : ∀ g, g < P.globals.size → g < C.nx ∧ π g = g
  zero : π 0 = 0
  keys : ∀ k ∈ C.h.bs.map (·.1), k < C.nx
  inj : ∀ b ∈ foot, ∀ c ∈ foot, π b = π c → b = c
  nodup : foot.Nodup
  ro : ∀ b o, C.get b = some o → b ∉ foot → ∃ cs, o = .cells true cs ∧ (b, cs) ∈ Fz
  fz : ∀ x ∈ Fz, π x.1 = x.1 ∧ x.1 < C.nx ∧ x.1 ∉ foot ∧ namess (fun _ => false) x.2 = true ∧ C.get x.1 = some (.cells true x.2) ∧ s.get x.1 = some (.cells true x.2) ∧ ∀ c ∈ foot, π c ≠ x.1
  rw : ∀ b ∈ foot, ∃ o, C.get b = some o ∧ o.rw = true ∧ o.names (fun c => Nat.blt c C.nx) = true ∧ s.get (π b) = some (o.ren π)
/-- Behind code that began in C: C' lies in s' by π'; all else there is dead. -/
structure OutAt (P : Program) (Fz : List (Nat × List AV)) (C s' : AS) (foot : List Nat) (C' : AS) (π' : Nat → Nat) (foot' : List Nat) : Prop where
  in_ : InAt P Fz C' s' π' foot'
  nx : C.nx ≤ s'.nx
  keys : ∀ k ∈ s'.h.bs.map (·.1), k < s'.nx
  cover : ∀ b o, s'.get b = some o → o = .dead ∨ (o.rw = true ∧ o.names (fun _ => false) = true) ∨ ∃ c o', C'.get c = some o' ∧ π' c = b
  range : ∀ c, c < C'.nx → c ∈ foot' ∨ π' c = 0 ∨ ∃ cs, (c, cs) ∈ Fz
  stays : ∀ b, b < C.nx → b ∉ foot → s'.get b = C.get b

section
variable {P : Program} {Fz : List (Nat × List AV)} {C s1 C1 s2 C2 : AS} {foot foot1 foot2 : List Nat} {π1 π2 : Nat → Nat}
def newOf (C1 : AS) (foot2 : List Nat) (π2 : Nat → Nat) : List Nat := (foot2.map π2).filter fun b => decide (C1.nx ≤ b)
def glue (C1 s1 : AS) (foot2 : List Nat) (π1 π2 : Nat → Nat) (b : Nat) : Nat := if b < C1.nx then π1 b else s1.nx + (newOf C1 foot2 π2).idxOf b
def seenBy (C2 : AS) (π2 : Nat → Nat) (b : Nat) : Bool := (List.range C2.nx).any fun c => π2 c == b
theorem seenBy_iff {b : Nat} : seenBy C2 π2 b = true ↔ ∃ c, c < C2.nx ∧ π2 c = b := by
  simp [seenBy]
theorem mem_newOf {b : Nat} : b ∈ newOf C1 foot2 π2 ↔ (∃ c ∈ foot2, π2 c = b) ∧ C1.nx ≤ b := by
  simp [newOf]
theorem newOf_nodup (h : InAt P Fz C2 s2 π2 foot2) : (newOf C1 foot2 π2).Nodup := (nodup_map_on h.inj h.nodup).filter _
theorem obj_of (h : InAt P Fz C2 s2 π2 foot2) {c : Nat} (hc : c ∈ foot2) : (objAt s2 (π2 c)).rw = true ∧ (objAt s2 (π2 c)).names (seenBy C2 π2) = true := by
  obtain ⟨o, h1, h2, h3, h4⟩ := h.rw c hc
  have e : objAt s2 (π2 c) = o.ren π2 := by simp [objAt, h4]
  rw [e]
  refine ⟨by simpa using h2, onames_ren (fun b hb => ?_) o h3⟩
  exact seenBy_iff.2 ⟨b, by simpa using hb, rfl⟩
theorem placed_of (A : OutAt P Fz C s1 foot C1 π1 foot1) (B : OutAt P Fz C1 s2 foot1 C2 π2 foot2) (hg : 0 < C1.nx) :
    Placed P C1 s2 s1 π1 (glue C1 s1 foot2 π1 π2) foot1 (newOf C1 foot2 π2) (seenBy C2 π2) where
  glob := A.in_.glob
  keys := A.in_.keys
  inj := A.in_.inj
  nodup := A.in_.nodup
  ro b o hb hf := by
    obtain ⟨cs, rfl, hz⟩ := A.in_.ro b o hb hf
    obtain ⟨k1, k2, k3, k4, k5, k6, k7⟩ := A.in_.fz _ hz
    refine ⟨cs, true, rfl, namess_sub (fun _ h => by cases h) k4, ?_, fun c hc => by rw [k1]; exact k7 c hc⟩
    rw [k1, rens_no k4]
    exact k6
  rw := A.in_.rw
  newNodup := newOf_nodup B.in_
  fresh b hb := by
    obtain ⟨⟨c, hc, rfl⟩, h2⟩ := mem_newOf.1 hb
    exact ⟨h2, obj_of B.in_ hc⟩
  low b hb := if_pos hb
  high i b hi := by
    have hm := List.mem_of_getElem? hi
    have h2 := (mem_newOf.1 hm).2
    unfold glue
    rw [if_neg (by omega)]
    have hlt : i < (newOf C1 foot2 π2).length := (List.getElem?_eq_some_iff.1 hi).1
    have hb : (newOf C1 foot2 π2)[i] = b := (List.getElem?_eq_some_iff.1 hi).2
    rw [← hb, List.Nodup.idxOf_getElem (newOf_nodup B.in_) i hlt]
  names b hb := by
    obtain ⟨c, hc, rfl⟩ := seenBy_iff.1 hb
    rcases B.range c hc with h | h | ⟨cs, h⟩
    · by_cases hl : π2 c < C1.nx
      · exact .inl hl
      · exact .inr (mem_newOf.2 ⟨⟨c, h, rfl⟩, by omega⟩)
    · rw [h]
      exact .inl hg
    · obtain ⟨k1, _⟩ := B.in_.fz _ h
      obtain ⟨_, k2, _⟩ := A.in_.fz _ h
      rw [k1]
      exact .inl k2
  old b hb := by
    cases ho : s2.get b with
    | none =>
      have e : objAt s2 b = .dead := by simp [objAt, ho]
      rw [e]
      exact ⟨.inr rfl, rfl⟩
    | some o =>
      have e : objAt s2 b = o := by simp [objAt, ho]
      rcases B.cover b o ho with rfl | ⟨g1, g2⟩ | ⟨c, o', h1, rfl⟩
      · rw [e]
        exact ⟨.inr rfl, rfl⟩
      · rw [e]
        exact ⟨.inl g1, onames_sub (fun _ h => by cases h) g2⟩
      · by_cases hc : c ∈ foot2
        · exact ⟨.inl (obj_of B.in_ hc).1, (obj_of B.in_ hc).2⟩
        · obtain ⟨cs, rfl, hz⟩ := B.in_.ro c o' h1 hc
          obtain ⟨k1, _⟩ := B.in_.fz _ hz
          obtain ⟨_, _, k3, _⟩ := A.in_.fz _ hz
          rw [k1] at hb
          exact absurd hb k3
/-- Behind both. -/
def both (C1 s1 s2 : AS) (foot1 foot2 : List Nat) (π1 π2 : Nat → Nat) : AS :=
  pushL (setL s1 (foot1.map fun b => (π1 b, (objAt s2 b).ren (glue C1 s1 foot2 π1 π2)))) ((newOf C1 foot2 π2).map fun b => (objAt s2 b).ren (glue C1 s1 foot2 π1 π2))
section
variable (A : OutAt P Fz C s1 foot C1 π1 foot1) (B : OutAt P Fz C1 s2 foot1 C2 π2 foot2)
include A
omit A in
theorem both_old {b : Nat} (hb : b < s1.nx) (hne : ∀ c ∈ foot1, π1 c ≠ b) : (both C1 s1 s2 foot1 foot2 π1 π2).get b = s1.get b := by
  unfold both
  rw [pushL_old (by rw [setL_nx]; exact hb)]
  refine setL_other fun hm => ?_
  rw [List.map_map] at hm
  obtain ⟨c, hcf, he⟩ := List.mem_map.1 hm
  exact hne c hcf he
theorem foot_lt {b : Nat} (hb : b ∈ foot1) : π1 b < s1.nx := by
  obtain ⟨o, _, _, _, hs⟩ := A.in_.rw b hb
  exact A.keys _ (getB_mem hs)
theorem both_foot {b : Nat} (hb : b ∈ foot1) : (both C1 s1 s2 foot1 foot2 π1 π2).get (π1 b) = some ((objAt s2 b).ren (glue C1 s1 foot2 π1 π2)) := by
  obtain ⟨o, _, _, _, hs⟩ := A.in_.rw b hb
  unfold both
  rw [pushL_old (by rw [setL_nx]; exact foot_lt A hb)]
  refine setL_at ?_ (List.mem_map.2 ⟨b, hb, rfl⟩) hs
  rw [List.map_map]
  exact nodup_map_on A.in_.inj A.in_.nodup
omit A in
theorem both_new {i b : Nat} (hi : (newOf C1 foot2 π2)[i]? = some b) : (both C1 s1 s2 foot1 foot2 π1 π2).get (s1.nx + i) = some ((objAt s2 b).ren (glue C1 s1 foot2 π1 π2)) := by
  have := pushL_new (l := (newOf C1 foot2 π2).map fun b => (objAt s2 b).ren (glue C1 s1 foot2 π1 π2)) (s := setL s1 (foot1.map fun b => (π1 b, (objAt s2 b).ren (glue C1 s1 foot2 π1 π2)))) (i := i) (o := (objAt s2 b).ren (glue C1 s1 foot2 π1 π2)) (by rw [List.getElem?_map, hi]; rfl)
  rw [setL_nx] at this
  exact this
omit A in
theorem both_nx : (both C1 s1 s2 foot1 foot2 π1 π2).nx = s1.nx + (newOf C1 foot2 π2).length := by
  unfold both
  rw [pushL_nx, setL_nx]
  simp
theorem both_keys : ∀ k ∈ (both C1 s1 s2 foot1 foot2 π1 π2).h.bs.map (·.1), k < (both C1 s1 s2 foot1 foot2 π1 π2).nx := by
  intro b hb
  have hsh : Shape s1 (both C1 s1 s2 foot1 foot2 π1 π2) := (setL_shape _ _).trans (pushL_shape _ _)
  obtain ⟨ks, h1, _, h3⟩ := hsh.keys
  have hb : b ∈ keysOf (both C1 s1 s2 foot1 foot2 π1 π2) := hb
  rw [h1] at hb
  rcases List.mem_append.1 hb with hb | hb
  · exact (h3 b hb).2
  · have : b < s1.nx := A.keys b hb
    rw [both_nx]
    omega
include B
/-- A block of s2 that may be written, and is old, is one of the first's. -/
theorem foot_old {c : Nat} (hc : c ∈ foot2) (hl : π2 c < C1.nx) : π2 c ∈ foot1 := by
  obtain ⟨o, h1, h2, h3, h4⟩ := B.in_.rw c hc
  by_cases hf : π2 c ∈ foot1
  · exact hf
  · have := B.stays _ hl hf
    rw [h4] at this
    obtain ⟨cs, he, _⟩ := A.in_.ro _ _ this.symm hf
    have hr : (o.ren π2).rw = true := by simpa using h2
    rw [he] at hr
    cases hr
omit A B in
theorem glue_new {c : Nat} (hc : c ∈ foot2) (hl : ¬ π2 c < C1.nx) : ∃ i, (newOf C1 foot2 π2)[i]? = some (π2 c) ∧ glue C1 s1 foot2 π1 π2 (π2 c) = s1.nx + i := by
  have hm : π2 c ∈ newOf C1 foot2 π2 := mem_newOf.2 ⟨⟨c, hc, rfl⟩, by omega⟩
  refine ⟨(newOf C1 foot2 π2).idxOf (π2 c), ?_, if_neg hl⟩
  rw [List.getElem?_eq_getElem (List.idxOf_lt_length_of_mem hm), List.getElem_idxOf]
theorem both_at {c : Nat} (hc : c ∈ foot2) : (both C1 s1 s2 foot1 foot2 π1 π2).get (glue C1 s1 foot2 π1 π2 (π2 c)) = some ((objAt s2 (π2 c)).ren (glue C1 s1 foot2 π1 π2)) := by
  by_cases hl : π2 c < C1.nx
  · rw [show glue C1 s1 foot2 π1 π2 (π2 c) = π1 (π2 c) from if_pos hl]
    exact both_foot A (foot_old A B hc hl)
  · obtain ⟨i, hi, hg⟩ := glue_new (s1 := s1) (π1 := π1) hc hl
    rw [hg]
    exact both_new hi
theorem glue_inj {b c : Nat} (hb : b ∈ foot2) (hc : c ∈ foot2) (h : glue C1 s1 foot2 π1 π2 (π2 b) = glue C1 s1 foot2 π1 π2 (π2 c)) : b = c := by
  refine B.in_.inj b hb c hc ?_
  by_cases lb : π2 b < C1.nx
  · have eb : glue C1 s1 foot2 π1 π2 (π2 b) = π1 (π2 b) := if_pos lb
    have hlb := foot_lt A (foot_old A B hb lb)
    by_cases lc : π2 c < C1.nx
    · have ec : glue C1 s1 foot2 π1 π2 (π2 c) = π1 (π2 c) := if_pos lc
      exact A.in_.inj _ (foot_old A B hb lb) _ (foot_old A B hc lc) (by rw [← eb, ← ec, h])
    · obtain ⟨i, _, hi⟩ := glue_new (s1 := s1) (π1 := π1) hc lc
      rw [eb, hi] at h
      omega
  · obtain ⟨i, hi1, hi⟩ := glue_new (s1 := s1) (π1 := π1) hb lb
    by_cases lc : π2 c < C1.nx
    · have ec : glue C1 s1 foot2 π1 π2 (π2 c) = π1 (π2 c) := if_pos lc
      have hlc := foot_lt A (foot_old A B hc lc)
      rw [ec, hi] at h
      omega
    · obtain ⟨j, hj1, hj⟩ := glue_new (s1 := s1) (π1 := π1) hc lc
      rw [hi, hj] at h
      have : i = j := by omega
      subst this
      rw [hi1] at hj1
      exact Option.some.inj hj1
theorem out_comp (h0 : 0 < C1.nx) (hC : ∀ b o, C.get b = some o → o.rw = true → b ∈ foot) : OutAt P Fz C (both C1 s1 s2 foot1 foot2 π1 π2) foot C2 (fun c => glue C1 s1 foot2 π1 π2 (π2 c)) foot2 := by
  have gl : ∀ x, x < C1.nx → glue C1 s1 foot2 π1 π2 x = π1 x := fun x hx => if_pos hx
  have fzg : ∀ x ∈ Fz, glue C1 s1 foot2 π1 π2 (π2 x.1) = x.1 := fun x hx => by
    obtain ⟨a1, a2, _⟩ := A.in_.fz x hx
    obtain ⟨b1, _⟩ := B.in_.fz x hx
    rw [b1, gl _ a2, a1]
  refine ⟨⟨fun g hg => ⟨(B.in_.glob g hg).1, ?_⟩, ?_, B.in_.keys, fun b hb c hc h => glue_inj A B hb hc h, B.in_.nodup, B.in_.ro, fun x hx => ?_, fun b hb => ?_⟩, ?_, both_keys A, fun b o hb => ?_, fun c hc => ?_, fun b hb hf => ?_⟩
  · show glue C1 s1 foot2 π1 π2 (π2 g) = g
    rw [(B.in_.glob g hg).2, gl _ (A.in_.glob g hg).1, (A.in_.glob g hg).2]
  · show glue C1 s1 foot2 π1 π2 (π2 0) = 0
    rw [B.in_.zero, gl _ h0, A.in_.zero]
  · obtain ⟨a1, a2, a3, a4, a5, a6, a7⟩ := A.in_.fz x hx
    obtain ⟨b1, b2, b3, b4, b5, b6, b7⟩ := B.in_.fz x hx
    refine ⟨fzg x hx, b2, b3, b4, b5, ?_, fun c hc he => ?_⟩
    · rw [both_old (A.keys _ (getB_mem a6)) a7]
      exact a6
    · have hg := both_at A B hc
      rw [show glue C1 s1 foot2 π1 π2 (π2 c) = x.1 from he, both_old (A.keys _ (getB_mem a6)) a7, a6] at hg
      have hr := (obj_of B.in_ hc).1
      have := congrArg AObj.rw (Option.some.inj hg)
      simp only [ren_rw, hr] at this
      cases this
  · obtain ⟨o, k1, k2, k3, k4⟩ := B.in_.rw b hb
    refine ⟨o, k1, k2, k3, ?_⟩
    have e : objAt s2 (π2 b) = o.ren π2 := by simp [objAt, k4]
    rw [both_at A B hb, e, oren_comp]
  · have := A.nx
    rw [both_nx]
    omega
  · have hlt := both_keys A b (getB_mem hb)
    rw [both_nx] at hlt
    have alive : ∀ c, (∃ o', s2.get c = some o') → objAt s2 c = .dead ∨ ((objAt s2 c).rw = true ∧ (objAt s2 c).names (fun _ => false) = true) ∨ ∃ d o', C2.get d = some o' ∧ π2 d = c := fun c hc => by
      obtain ⟨o', ho'⟩ := hc
      rcases B.cover c o' ho' with h | h | h
      · exact .inl (by simp [objAt, ho', h])
      · exact .inr (.inl (by simpa [objAt, ho'] using h))
      · exact .inr (.inr h)
    by_cases hbs : b < s1.nx
    · by_cases hex : ∃ c ∈ foot1, π1 c = b
      · obtain ⟨c, hcf, rfl⟩ := hex
        rw [both_foot A hcf] at hb
        simp only [Option.some.injEq] at hb
        have hc1 : c < C1.nx := by
          obtain ⟨o1, q1, _⟩ := A.in_.rw c hcf
          exact A.in_.keys _ (getB_mem q1)
        cases hs2 : s2.get c with
        | none =>
          left
          rw [← hb]
          simp [objAt, hs2, AObj.ren]
        | some o2 =>
          rcases alive c ⟨o2, hs2⟩ with h | ⟨g1, g2⟩ | ⟨d, o', h1, h2⟩
          · left
            rw [← hb, h]
            rfl
          · rw [← hb]
            exact .inr (.inl ⟨by simpa using g1, onames_ren (fun _ h => by cases h) _ g2⟩)
          · exact .inr (.inr ⟨d, o', h1, by show glue C1 s1 foot2 π1 π2 (π2 d) = _; rw [h2, gl _ hc1]⟩)
      · have hne : ∀ c ∈ foot1, π1 c ≠ b := fun c hcf he => hex ⟨c, hcf, he⟩
        rw [both_old hbs hne] at hb
        rcases A.cover b o hb with h | h | ⟨c, o', h1, rfl⟩
        · exact .inl h
        · exact .inr (.inl h)
        · have hcf : c ∉ foot1 := fun hc => hne c hc rfl
          obtain ⟨cs, rfl, hzz⟩ := A.in_.ro c o' h1 hcf
          obtain ⟨b1, _, _, _, b5, _⟩ := B.in_.fz _ hzz
          obtain ⟨a1, _⟩ := A.in_.fz _ hzz
          refine .inr (.inr ⟨c, _, b5, ?_⟩)
          rw [a1]
          exact fzg _ hzz
    · have hi : b - s1.nx < (newOf C1 foot2 π2).length := by omega
      have hget : (newOf C1 foot2 π2)[b - s1.nx]? = some (newOf C1 foot2 π2)[b - s1.nx] := List.getElem?_eq_getElem hi
      obtain ⟨⟨c, hc, he⟩, hge⟩ := mem_newOf.1 (List.mem_of_getElem? hget)
      obtain ⟨o', k1, _⟩ := B.in_.rw c hc
      refine .inr (.inr ⟨c, o', k1, ?_⟩)
      have hlc : ¬ π2 c < C1.nx := by omega
      obtain ⟨j, hj1, hj⟩ := glue_new (s1 := s1) (π1 := π1) hc hlc
      show glue C1 s1 foot2 π1 π2 (π2 c) = b
      rw [hj]
      have hjb : j = b - s1.nx := by
        rw [← he] at hget
        have hnd := newOf_nodup (C1 := C1) B.in_
        exact (List.getElem?_inj (List.getElem?_eq_some_iff.1 hj1).1 hnd).1 (by rw [hj1, hget])
      omega
  · rcases B.range c hc with h | h | h
    · exact .inl h
    · exact .inr (.inl (by show glue C1 s1 foot2 π1 π2 (π2 c) = 0; rw [h, gl _ h0, A.in_.zero]))
    · exact .inr (.inr h)
  · have hs := A.stays b hb hf
    have hbs : b < s1.nx := Nat.lt_of_lt_of_le hb A.nx
    by_cases hex : ∃ c ∈ foot1, π1 c = b
    · obtain ⟨c, hcf, rfl⟩ := hex
      obtain ⟨o1, q1, q2, q3, q4⟩ := A.in_.rw c hcf
      rw [q4] at hs
      exact absurd (hC _ _ hs.symm (by simpa using q2)) hf
    · rw [both_old hbs (fun c hcf he => hex ⟨c, hcf, he⟩)]
      exact hs
end
end

/-- Code that begins in a canonical state ends in one, wherever that lies. -/
def Good (P : Program) (Fz : List (Nat × List AV)) (C : AS) (foot : List Nat) (T : List AV) (c : Code) (e : AExit) (T' : List AV) (C' : AS) (foot' : List Nat) : Prop :=
  ∃ (s' : AS) (π' : Nat → Nat), Sound P (.code c T C) ⟨e, rens π' T', s'⟩ ∧ OutAt P Fz C s' foot C' π' foot' ∧ namess (fun b => Nat.blt b C'.nx) T' = true
section
variable {P : Program} {Fz : List (Nat × List AV)} {C C1 C2 : AS} {foot foot1 foot2 : List Nat} {T T1 T2 : List AV} {e : AExit}
theorem good_join (hz : 0 < C1.nx) (hC : ∀ b o, C.get b = some o → o.rw = true → b ∈ foot) {c c2 c3 : Code} (h1 : Good P Fz C foot T c .normal T1 C1 foot1) (h2 : Good P Fz C1 foot1 T1 c2 e T2 C2 foot2)
    (join : ∀ {ts1 : List AV} {s1 : AS} {r : Res}, Sound P (.code c T C) ⟨.normal, ts1, s1⟩ → Sound P (.code c2 ts1 s1) r → Sound P (.code c3 T C) r) : Good P Fz C foot T c3 e T2 C2 foot2 := by
  obtain ⟨s1, π1, S1, A, n1⟩ := h1
  obtain ⟨s2, π2, S2, B, n2⟩ := h2
  refine ⟨both C1 s1 s2 foot1 foot2 π1 π2, fun c => glue C1 s1 foot2 π1 π2 (π2 c), ?_, out_comp A B hz hC, n2⟩
  have hv : namess (seenBy C2 π2) (rens π2 T2) = true := namess_ren (fun b hb => seenBy_iff.2 ⟨b, by simpa using hb, rfl⟩) T2 n2
  have := Sound.frameC S2 (placed_of A B hz) n1 hv
  rw [rens_comp] at this
  exact join S1 this
theorem Good.loop_next (hz : 0 < C1.nx) (hC : ∀ b o, C.get b = some o → o.rw = true → b ∈ foot) {c : Code} (h1 : Good P Fz C foot T c .normal T1 C1 foot1) (h2 : Good P Fz C1 foot1 T1 (.loop c) e T2 C2 foot2) : Good P Fz C foot T (.loop c) e T2 C2 foot2 :=
  good_join hz hC h1 h2 fun a b => Go.Mini.loop_next a b
theorem Good.seq_next (hz : 0 < C1.nx) (hC : ∀ b o, C.get b = some o → o.rw = true → b ∈ foot) {c c2 : Code} (h1 : Good P Fz C foot T c .normal T1 C1 foot1) (h2 : Good P Fz C1 foot1 T1 c2 e T2 C2 foot2) : Good P Fz C foot T (.seq c c2) e T2 C2 foot2 :=
  good_join hz hC h1 h2 fun a b => Go.Mini.seq_next a b
theorem Good.loop_stop {c : Code} (h : Good P Fz C foot T c e T1 C1 foot1) (he : e ≠ .normal) : Good P Fz C foot T (.loop c) e T1 C1 foot1 := by
  obtain ⟨s1, π1, S1, A, n1⟩ := h
  exact ⟨s1, π1, Go.Mini.loop_stop S1 he, A, n1⟩
end

/-- A state seen with what nobody asks for any more dead. -/
theorem View.dead {bs bs1 bs2 : List (Nat × AObj)} {len len1 nx nx1 : Nat} {esc1 : Option Nat} {l l2 ks : List Nat} (hk : bs2.map (·.1) = ks ++ bs.map (·.1)) (hl : len1 = len + ks.length) (hks : ∀ k ∈ ks, nx ≤ k ∧ k < nx1) (hnx : nx ≤ nx1)
    (hobj : eachB (fun b o => o = .dead ∨ (o.names (fun c => Nat.blt c nx1) = true ∧ getB bs1 b = some o)) bs2)
    (hold : eachB (fun b o => getB bs2 b = some o ∨ (b ∈ l2 ∧ getB bs1 b ≠ some o)) bs) :
    View ⟨⟨bs, len, none, []⟩, nx⟩ ⟨⟨bs1, len1, esc1, l⟩, nx1⟩ ⟨⟨bs2, len1, none, l2⟩, nx1⟩ (fun b => b) := by
  have none_ : ∀ b, b < nx → b ∉ bs.map (·.1) → getB bs2 b = getB bs b := fun b hb hn => by
    rw [getB_none hn, getB_none]
    rw [hk]
    intro hm
    rcases List.mem_append.1 hm with hm | hm
    · have := (hks b hm).1
      omega
    · exact hn hm
  refine ⟨fun _ _ => rfl, ⟨hnx, ⟨ks, hk, hl, hks⟩, l2, (List.append_nil l2).symm, fun b hb hn => ?_⟩, fun b o hb => ?_, fun _ _ _ _ _ _ _ _ h => h, fun b hb he => ?_⟩
  · show getB bs2 b = getB bs b
    by_cases hm : b ∈ bs.map (·.1)
    · obtain ⟨o, ho⟩ := getB_some hm
      rcases eachB_get hold ho with h | ⟨h, _⟩
      · rw [h, ho]
      · exact absurd h hn
    · exact none_ b hb hm
  · rcases eachB_get hobj hb with h | ⟨h1, h2⟩
    · exact .inl h
    · exact .inr ⟨h1, by rw [oren_id]; exact h2⟩
  · have he : getB bs1 b = getB bs b := he
    show getB bs2 b = getB bs b
    by_cases hm : b ∈ bs.map (·.1)
    · obtain ⟨o, ho⟩ := getB_some hm
      rcases eachB_get hold ho with h | ⟨_, h⟩
      · rw [h, ho]
      · rw [ho] at he
        exact absurd he h
    · exact none_ b hb hm
theorem Good.intro {P : Program} {Fz : List (Nat × List AV)} {C' : AS} {foot foot' : List Nat} {T T' ts1 : List AV} {c : Code} {e : AExit} {bs bs1 bs2 : List (Nat × AObj)} {len len1 nx nx1 : Nat} {esc1 : Option Nat} {l l2 : List Nat} {π' : Nat → Nat}
    (h : Sound P (.code c T ⟨⟨bs, len, none, []⟩, nx⟩) ⟨e, ts1, ⟨⟨bs1, len1, esc1, l⟩, nx1⟩⟩) (V : View ⟨⟨bs, len, none, []⟩, nx⟩ ⟨⟨bs1, len1, esc1, l⟩, nx1⟩ ⟨⟨bs2, len1, none, l2⟩, nx1⟩ (fun b => b))
    (hts : seesT (fun b => b) (fun c => Nat.blt c nx1) (rens π' T') ts1) (O : OutAt P Fz ⟨⟨bs, len, none, []⟩, nx⟩ ⟨⟨bs2, len1, none, l2⟩, nx1⟩ foot C' π' foot') (hn : namess (fun b => Nat.blt b C'.nx) T' = true) :
    Good P Fz ⟨⟨bs, len, none, []⟩, nx⟩ foot T c e T' C' foot' := ⟨_, π', Sound.view h V hts, O, hn⟩
end Go.Mini

namespace Go.Mini
open Go Go.RowKit

/-! ### maps whose keys and values are numbers, with any entries -/
def mapE (kd vk : IntKind) (es : List (Int × Int)) : List (AV × AV) := es.map fun x => (.int kd x.1, .int vk x.2)
def getM : List (Int × Int) → Int → Option Int
  | [], _ => none
  | x :: t, n => if n = x.1 then some x.2 else getM t n
def putM : List (Int × Int) → Int → Int → List (Int × Int)
  | [], n, v => [(n, v)]
  | x :: t, n, v => if n = x.1 then (n, v) :: t else x :: putM t n v
section
variable {P : Program} {kt et t : TypeId} {kd vk : IntKind}
theorem put_new (n v : Int) : ∀ es, getM es n = none → mapE kd vk (putM es n v) = mapE kd vk es ++ [(.int kd n, .int vk v)]
  | [], _ => rfl
  | x :: l, h => by
    simp only [getM] at h
    split at h
    · cases h
    · rename_i hn
      simp only [putM, if_neg hn]
      show _ :: mapE kd vk (putM l n v) = _
      rw [put_new n v l h]
      rfl
end
end Go.Mini

namespace Go.Mini
open Go Go.RowKit

/-! ### a call's contract, proved on a small heap, wherever its blocks lie -/
section
variable {P : Program}
def eachX (f : Nat → AObj → Prop) : List (Nat × AObj) → Prop
  | [] => True
  | x :: t => f x.1 x.2 ∧ eachX f t
theorem eachX_mem {f : Nat → AObj → Prop} : ∀ {bs : List (Nat × AObj)}, eachX f bs → ∀ x ∈ bs, f x.1 x.2
  | _ :: _, h, x, hx => by
    rcases List.mem_cons.1 hx with rfl | hx
    · exact h.1
    · exact eachX_mem h.2 x hx
def pN (nx0 : Nat) (new : List Nat) (b : Nat) : Bool := Nat.blt b nx0 || new.contains b
def pR (nx0 : Nat) (new : List Nat) (π : Nat → Nat) (n : Nat) (b : Nat) : Nat := if b < nx0 then π b else n + new.idxOf b
theorem Sound.put {f : FuncId} {args : List AV} {e : AExit} {v : AV} {s1 : AS} {bs0 : List (Nat × AObj)} {n0 nx0 : Nat} (h : Sound P (.call f args ⟨⟨bs0, n0, none, []⟩, nx0⟩) ⟨e, [v], s1⟩) (hg : P.globals.size = 0) (π : Nat → Nat) (new : List Nat) (s : AS)
    (hb : eachX (fun b o => b < nx0 ∧ o.rw = true ∧ o.names (fun c => Nat.blt c nx0) = true ∧ getB bs0 b = some o ∧ s.get (π b) = some (o.ren π) ∧ ((objAt s1 b).rw = true ∨ objAt s1 b = .dead) ∧ (objAt s1 b).names (pN nx0 new) = true) bs0)
    (hi : ∀ b ∈ bs0.map (·.1), ∀ c ∈ bs0.map (·.1), π b = π c → b = c) (hd : (bs0.map (·.1)).Nodup) (hn : new.Nodup) (hf : ∀ b ∈ new, nx0 ≤ b ∧ (objAt s1 b).rw = true ∧ (objAt s1 b).names (pN nx0 new) = true)
    (ha : namess (fun b => Nat.blt b nx0) args = true) (hv : v.names (pN nx0 new) = true) :
    Sound P (.call f (rens π args) s) ⟨.ret, [v.ren (pR nx0 new π s.nx)], pushL (setL s ((bs0.map (·.1)).map fun b => (π b, (objAt s1 b).ren (pR nx0 new π s.nx)))) (new.map fun b => (objAt s1 b).ren (pR nx0 new π s.nx))⟩ := by
  refine Sound.frame2 (s0 := ⟨⟨bs0, n0, none, []⟩, nx0⟩) h (p := pN nx0 new) ⟨fun g hg' => by omega, fun k hk => ?_, hi, hd, fun b o hb' hnf => ?_, fun b hbm => ?_, hn, hf, fun b hb' => if_pos hb', fun i b hib => ?_, fun b hp => ?_, fun b hbm => ?_⟩ ha hv .ret
  · obtain ⟨x, hx, rfl⟩ := List.mem_map.1 hk
    exact (eachX_mem hb x hx).1
  · exact absurd (getB_mem hb') hnf
  · obtain ⟨x, hx, rfl⟩ := List.mem_map.1 hbm
    obtain ⟨_, h2, h3, h4, h5, _⟩ := eachX_mem hb x hx
    exact ⟨x.2, h4, h2, h3, h5⟩
  · have hm := List.mem_of_getElem? hib
    have := (hf b hm).1
    show (if b < nx0 then π b else s.nx + new.idxOf b) = s.nx + i
    rw [if_neg (by omega)]
    have hlt : i < new.length := (List.getElem?_eq_some_iff.1 hib).1
    have hbe : new[i] = b := (List.getElem?_eq_some_iff.1 hib).2
    rw [← hbe, List.Nodup.idxOf_getElem hn i hlt]
  · unfold pN at hp
    rcases Bool.or_eq_true _ _ ▸ hp with h1 | h1
    · exact .inl (by simpa using h1)
    · exact .inr (by simpa using h1)
  · obtain ⟨x, hx, rfl⟩ := List.mem_map.1 hbm
    obtain ⟨_, _, _, _, _, h6, h7⟩ := eachX_mem hb x hx
    exact ⟨h6, h7⟩

/-- The same state, told otherwise. -/
theorem Sound.recast {f : FuncId} {args : List AV} {e : AExit} {vs : List AV} {s s1 s2 : AS} (h : Sound P (.call f args s) ⟨e, vs, s1⟩) (hs : ∀ b, s2.get b = s1.get b) (hk : keysOf s2 = keysOf s1) (hnx : s2.nx = s1.nx) (hlen : s2.h.len = s1.h.len)
    (hlog : ∃ l, s2.h.wr = l ++ s.h.wr ∧ ∀ b, b < s.nx → b ∉ l → s2.get b = s.get b) : Sound P (.call f args s) ⟨e, vs, s2⟩ := by
  intro B ρ cargs w R hc
  refine Calls.mono (h B ρ cargs w R hc) fun en w1 hr => ?_
  obtain ⟨v', u, ρ1, e1, e2, e3, hp⟩ := hr
  refine ⟨v', u, ρ1, e1, e2, e3, ⟨hp.rel.congr hs hk hnx, hp.ext, fun b hb hn => (hs b).trans (hp.unt b hb hn), ⟨by rw [hnx]; exact hp.shape.nx, ?_, hlog⟩, hp.size⟩⟩
  obtain ⟨ks, h1, h2, h3⟩ := hp.shape.keys
  exact ⟨ks, hk.trans h1, hlen.trans h2, fun k hk' => by rw [hnx]; exact h3 k hk'⟩

theorem setB_keys (b : Nat) (o : AObj) : ∀ l : List (Nat × AObj), (setB l b o).map (·.1) = l.map (·.1)
  | [] => rfl
  | x :: t => by
    simp only [setB]
    split
    · rfl
    · simp only [List.map_cons, setB_keys b o t]
theorem getB_setB (b : Nat) (o : AObj) (c : Nat) : ∀ l : List (Nat × AObj), getB (setB l b o) c = if c = b then (getB l b).map fun _ => o else getB l c
  | [] => by simp only [setB, getB]; split <;> rfl
  | x :: t => by
    have beqd : ∀ x y : Nat, Nat.beq x y = decide (x = y) := fun x y => by
      cases hxy : Nat.beq x y with
      | true => simp [Nat.eq_of_beq_eq_true hxy]
      | false => simp [Nat.ne_of_beq_eq_false hxy]
    by_cases h1 : x.1 = b
    · by_cases h2 : c = b
      · subst h2
        simp [setB, getB, h1]
      · have h3 : ¬ x.1 = c := fun h => h2 (by rw [← h, h1])
        have h3' : ¬ b = c := fun h => h2 h.symm
        simp [setB, getB, h1, h2, h3', beqd]
    · by_cases h2 : c = b
      · subst h2
        have ih := getB_setB c o c t
        simp only [if_true] at ih
        simp [setB, getB, h1, beqd, ih]
      · have ih := getB_setB b o c t
        rw [if_neg h2] at ih
        by_cases h3 : x.1 = c <;> simp [setB, getB, h1, h2, h3, beqd, ih]
theorem get_set_ne {s : AS} {b c : Nat} {o : AObj} (h : c ≠ b) : (s.set b o).get c = s.get c := by
  show getB (setB s.h.bs b o) c = _
  rw [getB_setB, if_neg h]
  rfl
theorem get_set_eq {s : AS} {b : Nat} {o q : AObj} (h : s.get b = some q) : (s.set b o).get b = some o := by
  show getB (setB s.h.bs b o) b = _
  have h : getB s.h.bs b = some q := h
  rw [getB_setB, if_pos rfl, h]
  rfl
theorem get_set_same {s : AS} {b : Nat} {o : AObj} (h : s.get b = some o) (c : Nat) : (s.set b o).get c = s.get c := by
  by_cases hc : c = b
  · subst hc
    rw [get_set_eq h, h]
  · exact get_set_ne hc
theorem get_push (s : AS) (o : AObj) (c : Nat) : (s.push o).get c = if s.nx = c then some o else s.get c := getB_cons
/-- A block that nothing stands for may be thought of. -/
theorem Sound.phantom {f : FuncId} {args : List AV} {s : AS} {r : Res} (o : AObj) (h : Sound P (.call f args (s.push o)) r) : Sound P (.call f args s) r := by
  intro B ρ cargs w R hc
  refine Calls.mono (h B ρ cargs w (R.pushNone o) hc) fun en w1 hr => ?_
  obtain ⟨v', u, ρ1, e1, e2, e3, hp⟩ := hr
  have nxe : (s.push o).nx = s.nx + 1 := rfl
  refine ⟨v', u, ρ1, e1, e2, e3, ⟨hp.rel, fun b hb => hp.ext b (by rw [nxe]; omega), fun b hb hn => ?_, ⟨?_, ?_, ?_⟩, hp.size⟩⟩
  · rw [hp.unt b (by rw [nxe]; omega) hn, get_push, if_neg (by omega)]
  · have := hp.shape.nx
    rw [nxe] at this
    omega
  · obtain ⟨ks, h1, h2, h3⟩ := hp.shape.keys
    refine ⟨ks ++ [s.nx], ?_, ?_, fun k hk => ?_⟩
    · rw [h1]
      show ks ++ (s.nx :: keysOf s) = _
      simp
    · rw [h2]
      show s.h.len + 1 + ks.length = _
      simp
      omega
    · have hx := hp.shape.nx
      rw [nxe] at hx
      rcases List.mem_append.1 hk with hk | hk
      · have := h3 k hk
        rw [nxe] at this
        omega
      · simp only [List.mem_singleton] at hk
        omega
  · obtain ⟨l, h1, h2⟩ := hp.shape.log
    refine ⟨l, h1, fun b hb hn => ?_⟩
    rw [h2 b (by rw [nxe]; omega) hn, get_push, if_neg (by omega)]

/-! ### the parts of code -/
/-- The last of code that began in a canonical state: told where it lies now. -/
theorem placed_end {Fz : List (Nat × List AV)} {C s1 C1 s2 : AS} {foot foot1 : List Nat} {π1 : Nat → Nat} (A : OutAt P Fz C s1 foot C1 π1 foot1) (hs : ∀ b ∈ foot1, ((objAt s2 b).rw = true ∨ objAt s2 b = .dead) ∧ (objAt s2 b).names (fun b => Nat.blt b C1.nx) = true) :
    Placed P C1 s2 s1 π1 π1 foot1 [] (fun b => Nat.blt b C1.nx) where
  glob := A.in_.glob
  keys := A.in_.keys
  inj := A.in_.inj
  nodup := A.in_.nodup
  ro b o hb hf := by
    obtain ⟨cs, rfl, hz⟩ := A.in_.ro b o hb hf
    obtain ⟨k1, k2, k3, k4, k5, k6, k7⟩ := A.in_.fz _ hz
    refine ⟨cs, true, rfl, namess_sub (fun _ h => by cases h) k4, ?_, fun c hc => by rw [k1]; exact k7 c hc⟩
    rw [k1, rens_no k4]
    exact k6
  rw := A.in_.rw
  newNodup := List.nodup_nil
  fresh b hb := by cases hb
  low b hb := rfl
  high i b hi := by cases hi
  names b hb := .inl (by simpa using hb)
  old b hb := hs b hb
theorem Good.block_exit {Fz : List (Nat × List AV)} {C C1 : AS} {foot foot1 : List Nat} {T T1 : List AV} {c : Code} {id : Nat} (h : Good P Fz C foot T c (.exit id) T1 C1 foot1) : Good P Fz C foot T (.block id c) .normal T1 C1 foot1 := by
  obtain ⟨s1, π1, S1, A, n1⟩ := h
  exact ⟨s1, π1, Go.Mini.block_exit S1 rfl, A, n1⟩
end
end Go.Mini

namespace Go.Mini

/-! ### rows of numbers, sorted by what each has, and by themselves where that is alike: the plain side of a stable sort -/
section
variable (k : Nat → Int)
def lx (a b : Nat) : Prop := k a < k b ∨ (k a = k b ∧ a < b)
end
section
variable {k : Nat → Int}
/-! ### rows, cut -/
end
end Go.Mini

namespace Go.Mini
open Go Go.RowKit

/-! ### canonical states: rows in block 0, and blocks of the code's own -/
/-- It names nothing, and may be written. -/
def Free (o : AObj) : Prop := o.rw = true ∧ o.names (fun _ => false) = true
theorem Free.ren {o : AObj} (h : Free o) (π : Nat → Nat) : o.ren π = o := by rw [oren_congr (p := fun _ => false) (π' := fun b => b) (fun _ h => by cases h) h.2, oren_id]
theorem Free.nm {o : AObj} (h : Free o) (p : Nat → Bool) : o.names p = true := onames_sub (fun _ h => by cases h) h.2
theorem getB_entry {b : Nat} {o : AObj} : ∀ {l : List (Nat × AObj)}, getB l b = some o → ∃ y ∈ l, y.1 = b ∧ y.2 = o
  | [], h => by cases h
  | y :: t, h => by
    simp only [getB] at h
    split at h
    · rename_i hb
      exact ⟨y, by simp, Nat.eq_of_beq_eq_true hb, by simpa using h⟩
    · obtain ⟨z, h1, h2⟩ := getB_entry h
      exact ⟨z, by simp [h1], h2⟩
theorem getB_both {b : Nat} {l m : List (Nat × AObj)} : getB (l ++ m) b = match getB l b with
    | some o => some o
    | none => getB m b := by
  induction l with
  | nil => rfl
  | cons x t ih =>
    simp only [List.cons_append, getB]
    split
    · rfl
    · exact ih
def canS (bsC : List (Nat × AObj)) (row : List AV) (lC nxC : Nat) : AS := ⟨⟨bsC ++ [(0, .cells true row)], lC, none, []⟩, nxC⟩
section
variable {P : Program} {bsC : List (Nat × AObj)} {row : List AV} {lC nxC : Nat}
theorem can_keys (b : Nat) : b ∈ (canS bsC row lC nxC).h.bs.map (·.1) ↔ b ∈ bsC.map (·.1) ∨ b = 0 := by
  unfold canS
  simp
theorem can_zero (hz : ∀ x ∈ bsC, 0 < x.1) : (canS bsC row lC nxC).get 0 = some (.cells true row) := by
  show getB (bsC ++ [(0, .cells true row)]) 0 = _
  rw [getB_both, getB_none (fun hm => by
    obtain ⟨x, hx, h0⟩ := List.mem_map.1 hm
    have := hz x hx
    omega)]
  rfl
theorem Good.can {C0 : AS} {foot0 : List Nat} {T T' ts1 : List AV} {c : Code} {e : AExit} {bs1 : List (Nat × AObj)} {len1 nx1 : Nat} {esc1 : Option Nat} {wr1 : List Nat}
    (hs : Sound P (.code c T C0) ⟨e, ts1, ⟨⟨bs1, len1, esc1, wr1⟩, nx1⟩⟩) (hg : P.globals.size = 0) (π : Nat → Nat) (h0 : π 0 = 0) (hnm : namess (fun _ => false) row = true)
    (hb : eachX (fun b o => 0 < b ∧ b < nxC ∧ getB bsC b = some o ∧ o.rw = true ∧ o.names (fun c => Nat.blt c nxC) = true ∧ getB bs1 (π b) = some (o.ren π)) bsC)
    (hnd : (bsC.map (·.1)).Nodup) (hinj : ∀ b ∈ bsC.map (·.1), ∀ c ∈ bsC.map (·.1), π b = π c → b = c) (hne : ∀ c ∈ bsC.map (·.1), π c ≠ 0) (g0 : getB bs1 0 = some (.cells true row))
    (hcov : eachX (fun b o => o = .dead ∨ Free o ∨ ∃ c, (c = 0 ∨ c ∈ bsC.map (·.1)) ∧ π c = b) bs1) (hkeys : (bs1.all fun y => Nat.blt y.1 nx1) = true) (hnx : C0.nx ≤ nx1) (hn0 : 0 < nxC)
    (hr : ∀ c, c < nxC → c ≠ 0 → c ∈ bsC.map (·.1) ∨ π c = 0) (hst : ∀ b, b < C0.nx → b ∉ foot0 → getB bs1 b = C0.get b)
    (hts : seesT (fun b => b) (fun _ => true) (rens π T') ts1) (hT : namess (fun b => Nat.blt b nxC) T' = true) :
    Good P [(0, row)] C0 foot0 T c e T' (canS bsC row lC nxC) (bsC.map (·.1)) := by
  have hz : ∀ x ∈ bsC, 0 < x.1 := fun x hx => (eachX_mem hb x hx).1
  have mem_key := can_keys (bsC := bsC) (row := row) (lC := lC) (nxC := nxC)
  have getC : ∀ b o, getB bsC b = some o → (canS bsC row lC nxC).get b = some o := fun b o h => by
    show getB (bsC ++ [(0, .cells true row)]) b = _
    rw [getB_both, h]
  refine ⟨⟨⟨bs1, len1, esc1, wr1⟩, nx1⟩, π, ?_, ⟨⟨fun g hg' => absurd hg' (by omega), h0, fun k hk => ?_, hinj, hnd, fun b o hbo hf => ?_, fun x hx => ?_, fun b hbm => ?_⟩, ?_, fun k hk => ?_, fun b o hbo => ?_, fun c hc => ?_, ?_⟩, hT⟩
  · refine ⟨hs.1, fun B ρ a w R ht => wp_mono (hs.2 B ρ a w R ht) ?_⟩
    rintro e' a1 w1 ⟨rfl, ρ1, ht1, hp1⟩
    exact ⟨rfl, ρ1, ⟨seesT_rel (ρ := ρ1) (ρ' := ρ1) (fun _ _ _ h => h) hts ht1.rel, ht1.df⟩, hp1⟩
  · rcases (mem_key k).1 hk with h | h
    · obtain ⟨x, hx, rfl⟩ := List.mem_map.1 h
      exact (eachX_mem hb x hx).2.1
    · rw [h]
      exact hn0
  · have hb0 : b = 0 := by
      rcases (mem_key b).1 (getB_mem hbo) with h | h
      · exact absurd h hf
      · exact h
    subst hb0
    rw [can_zero hz] at hbo
    exact ⟨row, (Option.some.inj hbo).symm, by simp⟩
  · simp only [List.mem_singleton] at hx
    subst hx
    refine ⟨h0, hn0, fun hm => ?_, hnm, can_zero hz, g0, hne⟩
    obtain ⟨x, hx, h0'⟩ := List.mem_map.1 hm
    have h1 : x.1 = 0 := h0'
    have := hz x hx
    omega
  · obtain ⟨x, hx, rfl⟩ := List.mem_map.1 hbm
    obtain ⟨_, _, h3, h4, h5, h6⟩ := eachX_mem hb x hx
    exact ⟨x.2, getC _ _ h3, h4, h5, h6⟩
  · exact hnx
  · obtain ⟨y, hy, rfl⟩ := List.mem_map.1 hk
    have := List.all_eq_true.1 hkeys y hy
    simpa using this
  · obtain ⟨y, hy, rfl, rfl⟩ := getB_entry (show getB bs1 b = some o from hbo)
    rcases eachX_mem hcov y hy with h | h | ⟨c, h1, h2⟩
    · exact .inl h
    · exact .inr (.inl h)
    · obtain ⟨o', ho'⟩ : ∃ o', (canS bsC row lC nxC).get c = some o' := getB_some ((mem_key c).2 (h1.elim .inr .inl))
      exact .inr (.inr ⟨c, o', ho', h2⟩)
  · by_cases h : c = 0
    · exact .inr (.inr ⟨row, by simp [h]⟩)
    · rcases hr c hc h with h | h
      · exact .inl h
      · exact .inr (.inl h)
  · exact hst
end

/-- A block that nothing stands for, behind a call. -/
theorem Sound.ghost {P : Program} {f : FuncId} {args vs : List AV} {s s1 : AS} {e : AExit} (o : AObj) (h : Sound P (.call f args s) ⟨e, vs, s1⟩) : Sound P (.call f args s) ⟨e, vs, s1.push o⟩ := by
  intro B ρ cargs w R hc
  refine Calls.mono (h B ρ cargs w R hc) fun en w1 hr => ?_
  obtain ⟨v', u, ρ1, e1, e2, e3, hp⟩ := hr
  refine ⟨v', u, ρ1, e1, e2, e3, ⟨hp.rel.pushNone o, hp.ext, fun b hb hn => ?_, hp.shape.trans (Shape.push s1 o), hp.size⟩⟩
  have hx := hp.shape.nx
  have hx : s.nx ≤ s1.nx := hx
  rw [get_push, if_neg (by omega)]
  exact hp.unt b hb hn

/-- A call's contract, proved on a small heap of rows that came in, and blocks of the call's own, wherever they lie. -/
theorem Sound.putR {P : Program} {f : FuncId} {args : List AV} {e : AExit} {v : AV} {s1 : AS} {bs0 : List (Nat × AObj)} {row : List AV} {n0 nx0 : Nat} (h : Sound P (.call f args (canS bs0 row n0 nx0)) ⟨e, [v], s1⟩) (hg : P.globals.size = 0) (π : Nat → Nat) (new : List Nat) (s : AS)
    (hnm : namess (fun _ => false) row = true) (h0 : ∃ ro, s.get (π 0) = some (.cells ro row)) (hn0 : 0 < nx0)
    (hb : eachX (fun b o => 0 < b ∧ b < nx0 ∧ o.rw = true ∧ o.names (fun c => Nat.blt c nx0) = true ∧ getB bs0 b = some o ∧ s.get (π b) = some (o.ren π) ∧ ((objAt s1 b).rw = true ∨ objAt s1 b = .dead) ∧ (objAt s1 b).names (pN nx0 new) = true) bs0)
    (hi : ∀ b ∈ bs0.map (·.1), ∀ c ∈ bs0.map (·.1), π b = π c → b = c) (hi0 : ∀ b ∈ bs0.map (·.1), π b ≠ π 0) (hd : (bs0.map (·.1)).Nodup) (hn : new.Nodup) (hf : ∀ b ∈ new, nx0 ≤ b ∧ (objAt s1 b).rw = true ∧ (objAt s1 b).names (pN nx0 new) = true)
    (ha : namess (fun b => Nat.blt b nx0) args = true) (hv : v.names (pN nx0 new) = true) :
    Sound P (.call f (rens π args) s) ⟨.ret, [v.ren (pR nx0 new π s.nx)], pushL (setL s ((bs0.map (·.1)).map fun b => (π b, (objAt s1 b).ren (pR nx0 new π s.nx)))) (new.map fun b => (objAt s1 b).ren (pR nx0 new π s.nx))⟩ := by
  have hz : ∀ x ∈ bs0, 0 < x.1 := fun x hx => (eachX_mem hb x hx).1
  refine Sound.frame2 (s0 := canS bs0 row n0 nx0) h (p := pN nx0 new) ⟨fun g hg' => by omega, fun k hk => ?_, hi, hd, fun b o hb' hnf => ?_, fun b hbm => ?_, hn, hf, fun b hb' => if_pos hb', fun i b hib => ?_, fun b hp => ?_, fun b hbm => ?_⟩ ha hv .ret
  · rcases (can_keys k).1 hk with hk | hk
    · obtain ⟨x, hx, rfl⟩ := List.mem_map.1 hk
      exact (eachX_mem hb x hx).2.1
    · rw [hk]
      exact hn0
  · have hb0 : b = 0 := by
      have hm := getB_mem hb'
      exact ((can_keys b).1 hm).resolve_left hnf
    subst hb0
    rw [can_zero hz] at hb'
    obtain ⟨ro, hro⟩ := h0
    refine ⟨row, ro, (Option.some.inj hb').symm, namess_sub (fun _ h => by cases h) hnm, ?_, hi0⟩
    rw [rens_no hnm]
    exact hro
  · obtain ⟨x, hx, rfl⟩ := List.mem_map.1 hbm
    obtain ⟨_, _, h2, h3, h4, h5, _⟩ := eachX_mem hb x hx
    refine ⟨x.2, ?_, h2, h3, h5⟩
    show getB (bs0 ++ [(0, .cells true row)]) x.1 = _
    rw [getB_both, h4]
  · have hm := List.mem_of_getElem? hib
    have := (hf b hm).1
    show (if b < nx0 then π b else s.nx + new.idxOf b) = s.nx + i
    rw [if_neg (by omega)]
    have hlt : i < new.length := (List.getElem?_eq_some_iff.1 hib).1
    have hbe : new[i] = b := (List.getElem?_eq_some_iff.1 hib).2
    rw [← hbe, List.Nodup.idxOf_getElem hn i hlt]
  · unfold pN at hp
    rcases Bool.or_eq_true _ _ ▸ hp with h1 | h1
    · exact .inl (show b < nx0 by simpa using h1)
    · exact .inr (by simpa using h1)
  · obtain ⟨x, hx, rfl⟩ := List.mem_map.1 hbm
    obtain ⟨_, _, _, _, _, _, h6, h7⟩ := eachX_mem hb x hx
    exact ⟨h6, h7⟩
theorem call_whole {P : Program} {f : FuncId} {fn : Func} {c : Code} {args ts vs : List AV} {bs : List (Nat × AObj)} {len nx : Nat} {s' : AS} {e : AExit} (hf : P.funcs[f]? = some fn) (hb : fn.body = some c)
    (hx : Sound P (.code c (args ++ List.replicate (fn.ntmps - args.length) undefA) ⟨⟨bs, len, none, []⟩, nx⟩) ⟨e, ts, s'⟩) (he : e = .normal ∨ e = .ret) (hvs : resultsA P ts s' fn.results.toList = some vs) :
    Sound P (.call f args ⟨⟨bs, len, none, []⟩, nx⟩) ⟨.ret, [oneOrTuple vs], s'⟩ := by
  intro B ρ cargs w R hargs
  have ht0 : TR ρ (args ++ List.replicate (fn.ntmps - args.length) undefA) { tmps := cargs.toArray ++ Array.replicate (fn.ntmps - cargs.toArray.size) undef, defers := [] } := by
    refine ⟨?_, rfl⟩
    have hl := hargs.length
    simp only [Array.toList_append, Array.toList_replicate, List.size_toArray]
    rw [← hl]
    exact hargs.append (VRels.replicate _ vrel_undef)
  refine calls_of_wp hf hb (wp_mono (hx.2 B ρ _ w R ht0) ?_)
  rintro e' a1 w1 ⟨rfl, ρ1, ht1, hp1⟩
  obtain ⟨u, hu, hr⟩ := results_all hp1.rel ht1 hvs
  rcases he with rfl | rfl
  · exact ⟨ht1.df, u, hu, _, u, ρ1, rfl, rfl, hr, hp1⟩
  · exact ⟨ht1.df, u, hu, _, u, ρ1, rfl, rfl, hr, hp1⟩
/-- A piece that ends in a canonical state, and what stands behind it: told apart, for whoever joins them. -/
theorem Good.finish {P : Program} {Fz : List (Nat × List AV)} {C C1 : AS} {foot foot1 : List Nat} {T T1 ts2 : List AV} {c c2 : Code} {e : AExit} {s2 : AS} (h : Good P Fz C foot T c .normal T1 C1 foot1) (h2 : Sound P (.code c2 T1 C1) ⟨e, ts2, s2⟩)
    (hs : ∀ b ∈ foot1, ((objAt s2 b).rw = true ∨ objAt s2 b = .dead) ∧ (objAt s2 b).names (fun b => Nat.blt b C1.nx) = true) (hn : namess (fun b => Nat.blt b C1.nx) ts2 = true) :
    ∃ (π : Nat → Nat) (ts1 : List AV) (s1 s' : AS), Sound P (.code c T C) ⟨.normal, ts1, s1⟩ ∧ Sound P (.code c2 ts1 s1) ⟨e, rens π ts2, s'⟩ ∧ (∀ b ∈ foot1, s'.get (π b) = some ((objAt s2 b).ren π)) ∧ (∀ x ∈ Fz, π x.1 = x.1) ∧ (∀ b ∈ foot1, ∀ x ∈ Fz, π b ≠ x.1) := by
  obtain ⟨s1, π1, S1, A, n1⟩ := h
  refine ⟨π1, _, s1, _, S1, Sound.frameC h2 (placed_end A hs) n1 hn, fun b hb => ?_, fun x hx => (A.in_.fz x hx).1, fun b hb x hx => (A.in_.fz x hx).2.2.2.2.2.2 b hb⟩
  obtain ⟨o, _, _, _, h5⟩ := A.in_.rw b hb
  show (setL s1 (foot1.map fun b => (π1 b, (objAt s2 b).ren π1))).get (π1 b) = _
  refine setL_at ?_ (List.mem_map.2 ⟨b, hb, rfl⟩) h5
  rw [List.map_map]
  exact nodup_map_on A.in_.inj A.in_.nodup
end Go.Mini

namespace Go.Mini
open Go Go.RowKit

/-! ### canonical states with rows in more than one block -/
def frz (Fz : List (Nat × List AV)) : List (Nat × AObj) := Fz.map fun x => (x.1, .cells true x.2)
def canF (bsC : List (Nat × AObj)) (Fz : List (Nat × List AV)) (lC nxC : Nat) : AS := ⟨⟨bsC ++ frz Fz, lC, none, []⟩, nxC⟩
section
variable {P : Program} {bsC : List (Nat × AObj)} {Fz : List (Nat × List AV)} {lC nxC : Nat}
theorem canF_keys (b : Nat) : b ∈ (canF bsC Fz lC nxC).h.bs.map (·.1) ↔ b ∈ bsC.map (·.1) ∨ ∃ x ∈ Fz, x.1 = b := by
  unfold canF frz
  simp
theorem frz_get {b : Nat} {o : AObj} (h : getB (frz Fz) b = some o) : ∃ x ∈ Fz, x.1 = b ∧ o = .cells true x.2 := by
  obtain ⟨y, hy, h1, h2⟩ := getB_entry h
  obtain ⟨x, hx, rfl⟩ := List.mem_map.1 hy
  exact ⟨x, hx, h1, h2.symm⟩
theorem canF_get (b : Nat) : (canF bsC Fz lC nxC).get b = match getB bsC b with
    | some o => some o
    | none => getB (frz Fz) b := by
  show getB (bsC ++ frz Fz) b = _
  exact getB_both
/-- What is asked of frozen rows. -/
structure FzOk (bsC : List (Nat × AObj)) (Fz : List (Nat × List AV)) (nxC : Nat) (π : Nat → Nat) (bs1 : List (Nat × AObj)) (x : Nat × List AV) : Prop where
  fix : π x.1 = x.1
  lt : x.1 < nxC
  out : x.1 ∉ bsC.map (·.1)
  nm : namess (fun _ => false) x.2 = true
  get : getB (frz Fz) x.1 = some (.cells true x.2)
  get1 : getB bs1 x.1 = some (.cells true x.2)
  apart : ∀ c ∈ bsC.map (·.1), π c ≠ x.1
theorem Good.canF {C0 : AS} {foot0 : List Nat} {T T' ts1 : List AV} {c : Code} {e : AExit} {bs1 : List (Nat × AObj)} {len1 nx1 : Nat} {esc1 : Option Nat} {wr1 : List Nat}
    (hs : Sound P (.code c T C0) ⟨e, ts1, ⟨⟨bs1, len1, esc1, wr1⟩, nx1⟩⟩) (hg : P.globals.size = 0) (π : Nat → Nat) (h0 : π 0 = 0) (hF : ∀ x ∈ Fz, FzOk bsC Fz nxC π bs1 x)
    (hb : eachX (fun b o => b < nxC ∧ getB bsC b = some o ∧ o.rw = true ∧ o.names (fun c => Nat.blt c nxC) = true ∧ getB bs1 (π b) = some (o.ren π)) bsC)
    (hnd : (bsC.map (·.1)).Nodup) (hinj : ∀ b ∈ bsC.map (·.1), ∀ c ∈ bsC.map (·.1), π b = π c → b = c)
    (hcov : eachX (fun b o => o = .dead ∨ Free o ∨ ∃ c, ((∃ x ∈ Fz, x.1 = c) ∨ c ∈ bsC.map (·.1)) ∧ π c = b) bs1) (hkeys : (bs1.all fun y => Nat.blt y.1 nx1) = true) (hnx : C0.nx ≤ nx1)
    (hr : ∀ c, c < nxC → (¬ ∃ x ∈ Fz, x.1 = c) → c ∈ bsC.map (·.1) ∨ π c = 0) (hst : ∀ b, b < C0.nx → b ∉ foot0 → getB bs1 b = C0.get b)
    (hts : seesT (fun b => b) (fun _ => true) (rens π T') ts1) (hT : namess (fun b => Nat.blt b nxC) T' = true) :
    Good P Fz C0 foot0 T c e T' (canF bsC Fz lC nxC) (bsC.map (·.1)) := by
  have mem_key := canF_keys (bsC := bsC) (Fz := Fz) (lC := lC) (nxC := nxC)
  have getC : ∀ b o, getB bsC b = some o → (Mini.canF bsC Fz lC nxC).get b = some o := fun b o h => by
    rw [canF_get, h]
  have getZ : ∀ x ∈ Fz, (Mini.canF bsC Fz lC nxC).get x.1 = some (.cells true x.2) := fun x hx => by
    rw [canF_get, getB_none (hF x hx).out]
    exact (hF x hx).get
  refine ⟨⟨⟨bs1, len1, esc1, wr1⟩, nx1⟩, π, ?_, ⟨⟨fun g hg' => absurd hg' (by omega), h0, fun k hk => ?_, hinj, hnd, fun b o hbo hf => ?_, fun x hx => ?_, fun b hbm => ?_⟩, ?_, fun k hk => ?_, fun b o hbo => ?_, fun c hc => ?_, ?_⟩, hT⟩
  · refine ⟨hs.1, fun B ρ a w R ht => wp_mono (hs.2 B ρ a w R ht) ?_⟩
    rintro e' a1 w1 ⟨rfl, ρ1, ht1, hp1⟩
    exact ⟨rfl, ρ1, ⟨seesT_rel (ρ := ρ1) (ρ' := ρ1) (fun _ _ _ h => h) hts ht1.rel, ht1.df⟩, hp1⟩
  · rcases (mem_key k).1 hk with h | ⟨x, hx, rfl⟩
    · obtain ⟨x, hx, rfl⟩ := List.mem_map.1 h
      exact (eachX_mem hb x hx).1
    · exact (hF x hx).lt
  · rw [canF_get, getB_none hf] at hbo
    obtain ⟨x, hx, rfl, rfl⟩ := frz_get hbo
    exact ⟨x.2, rfl, hx⟩
  · exact ⟨(hF x hx).fix, (hF x hx).lt, (hF x hx).out, (hF x hx).nm, getZ x hx, (hF x hx).get1, (hF x hx).apart⟩
  · obtain ⟨x, hx, rfl⟩ := List.mem_map.1 hbm
    obtain ⟨_, h3, h4, h5, h6⟩ := eachX_mem hb x hx
    exact ⟨x.2, getC _ _ h3, h4, h5, h6⟩
  · exact hnx
  · obtain ⟨y, hy, rfl⟩ := List.mem_map.1 hk
    have := List.all_eq_true.1 hkeys y hy
    simpa using this
  · obtain ⟨y, hy, rfl, rfl⟩ := getB_entry (show getB bs1 b = some o from hbo)
    rcases eachX_mem hcov y hy with h | h | ⟨c, h1, h2⟩
    · exact .inl h
    · exact .inr (.inl h)
    · obtain ⟨o', ho'⟩ : ∃ o', (Mini.canF bsC Fz lC nxC).get c = some o' := getB_some ((mem_key c).2 h1.symm)
      exact .inr (.inr ⟨c, o', ho', h2⟩)
  · by_cases h : ∃ x ∈ Fz, x.1 = c
    · obtain ⟨x, hx, rfl⟩ := h
      exact .inr (.inr ⟨x.2, hx⟩)
    · rcases hr c hc h with h | h
      · exact .inl h
      · exact .inr (.inl h)
  · exact hst
end
/-- As Good.finish; where the blocks lie is told, too. -/
theorem Good.ends {P : Program} {Fz : List (Nat × List AV)} {C C1 : AS} {foot foot1 : List Nat} {T T1 ts2 : List AV} {c c2 : Code} {e : AExit} {s2 : AS} (h : Good P Fz C foot T c .normal T1 C1 foot1) (hC : ∀ b o, C.get b = some o → o.rw = true → b ∈ foot) (h2 : Sound P (.code c2 T1 C1) ⟨e, ts2, s2⟩)
    (hs : ∀ b ∈ foot1, ((objAt s2 b).rw = true ∨ objAt s2 b = .dead) ∧ (objAt s2 b).names (fun b => Nat.blt b C1.nx) = true) (hn : namess (fun b => Nat.blt b C1.nx) ts2 = true) :
    ∃ (π : Nat → Nat) (s' : AS), Sound P (.code (.seq c c2) T C) ⟨e, rens π ts2, s'⟩ ∧ (∀ b ∈ foot1, s'.get (π b) = some ((objAt s2 b).ren π)) ∧ (∀ x ∈ Fz, π x.1 = x.1) ∧ (∀ b ∈ foot1, C.nx ≤ π b ∨ π b ∈ foot) ∧ (∀ b ∈ foot1, ∀ c ∈ foot1, π b = π c → b = c) := by
  obtain ⟨s1, π1, S1, A, n1⟩ := h
  refine ⟨π1, _, Go.Mini.seq_next S1 (Sound.frameC h2 (placed_end A hs) n1 hn), fun b hb => ?_, fun x hx => (A.in_.fz x hx).1, fun b hb => ?_, A.in_.inj⟩
  · obtain ⟨o, _, _, _, h5⟩ := A.in_.rw b hb
    show (setL s1 (foot1.map fun b => (π1 b, (objAt s2 b).ren π1))).get (π1 b) = _
    refine setL_at ?_ (List.mem_map.2 ⟨b, hb, rfl⟩) h5
    rw [List.map_map]
    exact nodup_map_on A.in_.inj A.in_.nodup
  · obtain ⟨o, _, h3, _, h5⟩ := A.in_.rw b hb
    by_cases hl : C.nx ≤ π1 b
    · exact .inl hl
    · by_cases hf : π1 b ∈ foot
      · exact .inr hf
      · rw [A.stays _ (by omega) hf] at h5
        exact .inr (hC _ _ h5 (by simpa using h3))
end Go.Mini

namespace Go.Mini
open Go Go.RowKit

/-! ### as in the text before this one, of programs that have laid variables: they keep their names -/
section
variable {P : Program} {bsC : List (Nat × AObj)} {Fz : List (Nat × List AV)} {lC nxC : Nat}
end
theorem placed_putG {P : Program} {s1 : AS} {bs0 : List (Nat × AObj)} {Fz : List (Nat × List AV)} {n0 nx0 : Nat} (π : Nat → Nat) (hg : ∀ g, g < P.globals.size → g < nx0 ∧ π g = g) (new : List Nat) (s : AS)
    (hF : ∀ x ∈ Fz, x.1 < nx0 ∧ x.1 ∉ bs0.map (·.1) ∧ namess (fun _ => false) x.2 = true ∧ (∃ ro, s.get (π x.1) = some (.cells ro x.2)) ∧ ∀ b ∈ bs0.map (·.1), π b ≠ π x.1)
    (hb : eachX (fun b o => b < nx0 ∧ o.rw = true ∧ o.names (fun c => Nat.blt c nx0) = true ∧ getB bs0 b = some o ∧ s.get (π b) = some (o.ren π) ∧ ((objAt s1 b).rw = true ∨ objAt s1 b = .dead) ∧ (objAt s1 b).names (pN nx0 new) = true) bs0)
    (hi : ∀ b ∈ bs0.map (·.1), ∀ c ∈ bs0.map (·.1), π b = π c → b = c) (hd : (bs0.map (·.1)).Nodup) (hn : new.Nodup) (hf : ∀ b ∈ new, nx0 ≤ b ∧ (objAt s1 b).rw = true ∧ (objAt s1 b).names (pN nx0 new) = true) :
    Placed P (canF bs0 Fz n0 nx0) s1 s π (pR nx0 new π s.nx) (bs0.map (·.1)) new (pN nx0 new) := by
  refine ⟨hg, fun k hk => ?_, hi, hd, fun b o hb' hnf => ?_, fun b hbm => ?_, hn, hf, fun b hb' => if_pos hb', fun i b hib => ?_, fun b hp => ?_, fun b hbm => ?_⟩
  · rcases (canF_keys k).1 hk with hk | ⟨x, hx, rfl⟩
    · obtain ⟨x, hx, rfl⟩ := List.mem_map.1 hk
      exact (eachX_mem hb x hx).1
    · exact (hF x hx).1
  · rw [canF_get, getB_none hnf] at hb'
    obtain ⟨x, hx, rfl, rfl⟩ := frz_get hb'
    obtain ⟨_, _, hnm, ⟨ro, hro⟩, hap⟩ := hF x hx
    refine ⟨x.2, ro, rfl, namess_sub (fun _ h => by cases h) hnm, ?_, hap⟩
    rw [rens_no hnm]
    exact hro
  · obtain ⟨x, hx, rfl⟩ := List.mem_map.1 hbm
    obtain ⟨_, h2, h3, h4, h5, _⟩ := eachX_mem hb x hx
    refine ⟨x.2, ?_, h2, h3, h5⟩
    rw [canF_get, h4]
  · have hm := List.mem_of_getElem? hib
    have := (hf b hm).1
    show (if b < nx0 then π b else s.nx + new.idxOf b) = s.nx + i
    rw [if_neg (by omega)]
    have hlt : i < new.length := (List.getElem?_eq_some_iff.1 hib).1
    have hbe : new[i] = b := (List.getElem?_eq_some_iff.1 hib).2
    rw [← hbe, List.Nodup.idxOf_getElem hn i hlt]
  · unfold pN at hp
    rcases Bool.or_eq_true _ _ ▸ hp with h1 | h1
    · exact .inl (show b < nx0 by simpa using h1)
    · exact .inr (by simpa using h1)
  · obtain ⟨x, hx, rfl⟩ := List.mem_map.1 hbm
    obtain ⟨_, _, _, _, _, h6, h7⟩ := eachX_mem hb x hx
    exact ⟨h6, h7⟩
/-- As Sound.putR; rows in more than one block. -/
theorem Sound.putFG {P : Program} {f : FuncId} {args : List AV} {e : AExit} {v : AV} {s1 : AS} {bs0 : List (Nat × AObj)} {Fz : List (Nat × List AV)} {n0 nx0 : Nat} (h : Sound P (.call f args (canF bs0 Fz n0 nx0)) ⟨e, [v], s1⟩) (π : Nat → Nat) (hg : ∀ g, g < P.globals.size → g < nx0 ∧ π g = g) (new : List Nat) (s : AS)
    (hF : ∀ x ∈ Fz, x.1 < nx0 ∧ x.1 ∉ bs0.map (·.1) ∧ namess (fun _ => false) x.2 = true ∧ (∃ ro, s.get (π x.1) = some (.cells ro x.2)) ∧ ∀ b ∈ bs0.map (·.1), π b ≠ π x.1)
    (hb : eachX (fun b o => b < nx0 ∧ o.rw = true ∧ o.names (fun c => Nat.blt c nx0) = true ∧ getB bs0 b = some o ∧ s.get (π b) = some (o.ren π) ∧ ((objAt s1 b).rw = true ∨ objAt s1 b = .dead) ∧ (objAt s1 b).names (pN nx0 new) = true) bs0)
    (hi : ∀ b ∈ bs0.map (·.1), ∀ c ∈ bs0.map (·.1), π b = π c → b = c) (hd : (bs0.map (·.1)).Nodup) (hn : new.Nodup) (hf : ∀ b ∈ new, nx0 ≤ b ∧ (objAt s1 b).rw = true ∧ (objAt s1 b).names (pN nx0 new) = true)
    (ha : namess (fun b => Nat.blt b nx0) args = true) (hv : v.names (pN nx0 new) = true) :
    Sound P (.call f (rens π args) s) ⟨.ret, [v.ren (pR nx0 new π s.nx)], pushL (setL s ((bs0.map (·.1)).map fun b => (π b, (objAt s1 b).ren (pR nx0 new π s.nx)))) (new.map fun b => (objAt s1 b).ren (pR nx0 new π s.nx))⟩ :=
  Sound.frame2 h (placed_putG π hg new s hF hb hi hd hn hf) ha hv .ret
/-- Likewise, of code. -/
theorem Sound.putCG {P : Program} {c : Code} {ts ts1 : List AV} {e : AExit} {s1 : AS} {bs0 : List (Nat × AObj)} {Fz : List (Nat × List AV)} {n0 nx0 : Nat} (h : Sound P (.code c ts (canF bs0 Fz n0 nx0)) ⟨e, ts1, s1⟩) (π : Nat → Nat) (hg : ∀ g, g < P.globals.size → g < nx0 ∧ π g = g) (new : List Nat) (s : AS)
    (hF : ∀ x ∈ Fz, x.1 < nx0 ∧ x.1 ∉ bs0.map (·.1) ∧ namess (fun _ => false) x.2 = true ∧ (∃ ro, s.get (π x.1) = some (.cells ro x.2)) ∧ ∀ b ∈ bs0.map (·.1), π b ≠ π x.1)
    (hb : eachX (fun b o => b < nx0 ∧ o.rw = true ∧ o.names (fun c => Nat.blt c nx0) = true ∧ getB bs0 b = some o ∧ s.get (π b) = some (o.ren π) ∧ ((objAt s1 b).rw = true ∨ objAt s1 b = .dead) ∧ (objAt s1 b).names (pN nx0 new) = true) bs0)
    (hi : ∀ b ∈ bs0.map (·.1), ∀ c ∈ bs0.map (·.1), π b = π c → b = c) (hd : (bs0.map (·.1)).Nodup) (hn : new.Nodup) (hf : ∀ b ∈ new, nx0 ≤ b ∧ (objAt s1 b).rw = true ∧ (objAt s1 b).names (pN nx0 new) = true)
    (ha : namess (fun b => Nat.blt b nx0) ts = true) (hv : namess (pN nx0 new) ts1 = true) :
    Sound P (.code c (rens π ts) s) ⟨e, rens (pR nx0 new π s.nx) ts1, pushL (setL s ((bs0.map (·.1)).map fun b => (π b, (objAt s1 b).ren (pR nx0 new π s.nx)))) (new.map fun b => (objAt s1 b).ren (pR nx0 new π s.nx))⟩ :=
  Sound.frameC h (placed_putG π hg new s hF hb hi hd hn hf) ha hv
end Go.Mini

namespace Go.Mini
open Go Go.RowKit

/-! ### a small heap lies in a state, under other names: what code makes of it there; nothing is said of what else the state holds -/
section
variable {P : Program}
structure Kan (P : Program) (bs : List (Nat × AObj)) (Fz : List (Nat × List AV)) (nx0 : Nat) : Prop where
  glob : P.globals.size ≤ nx0
  ok : eachX (fun b o => b < nx0 ∧ o.rw = true ∧ o.names (fun c => Nat.blt c nx0) = true ∧ getB bs b = some o) bs
  nodup : (bs.map (·.1)).Nodup
  fz : ∀ x ∈ Fz, x.1 < nx0 ∧ x.1 ∉ bs.map (·.1) ∧ namess (fun _ => false) x.2 = true
structure At (P : Program) (bs : List (Nat × AObj)) (Fz : List (Nat × List AV)) (s : AS) (π : Nat → Nat) : Prop where
  glob : ∀ g, g < P.globals.size → π g = g
  fz : ∀ x ∈ Fz, ∃ ro, s.get (π x.1) = some (.cells ro x.2)
  out : ∀ b ∈ bs.map (·.1), ∀ x ∈ Fz, π b ≠ π x.1
  inj : ∀ b ∈ bs.map (·.1), ∀ c ∈ bs.map (·.1), π b = π c → b = c
  at_ : eachX (fun b o => s.get (π b) = some (o.ren π)) bs
  keys : ∀ k ∈ s.h.bs.map (·.1), k < s.nx
theorem eachX_imp {f g : Nat → AObj → Prop} : ∀ {bs : List (Nat × AObj)}, eachX f bs → (∀ x ∈ bs, f x.1 x.2 → g x.1 x.2) → eachX g bs
  | [], _, _ => trivial
  | _ :: _, h, hi => ⟨hi _ (by simp) h.1, eachX_imp h.2 fun x hx => hi x (by simp [hx])⟩
theorem At.lt {bs : List (Nat × AObj)} {Fz : List (Nat × List AV)} {s : AS} {π : Nat → Nat} (A : At P bs Fz s π) {b : Nat} (hb : b ∈ bs.map (·.1)) : π b < s.nx := by
  obtain ⟨x, hx, rfl⟩ := List.mem_map.1 hb
  exact A.keys _ (getB_mem (eachX_mem A.at_ x hx))
section
variable {bs bs' : List (Nat × AObj)} {Fz : List (Nat × List AV)} {s s1 : AS} {π κ : Nat → Nat} {n0 nx0 : Nat} {new : List Nat} (A : At P bs Fz s π) (K : Kan P bs Fz nx0) (hn : new.Nodup) (hnew : ∀ b ∈ new, nx0 ≤ b ∧ (objAt s1 b).rw = true ∧ (objAt s1 b).names (pN nx0 new) = true)
  (hκg : ∀ g, g < P.globals.size → κ g = g) (hκz : ∀ x ∈ Fz, κ x.1 = x.1) (hκ : eachX (fun b o => (κ b ∈ bs.map (·.1) ∨ κ b ∈ new) ∧ s1.get (κ b) = some (o.ren κ)) bs') (hκi : ∀ b ∈ bs'.map (·.1), ∀ c ∈ bs'.map (·.1), κ b = κ c → b = c)
include A K hn hnew hκg hκz hκ hκi
omit hn in
theorem At.after : At P bs' Fz (pushL (setL s ((bs.map (·.1)).map fun b => (π b, (objAt s1 b).ren (pR nx0 new π s.nx)))) (new.map fun b => (objAt s1 b).ren (pR nx0 new π s.nx))) (fun b => pR nx0 new π s.nx (κ b)) := by
  have low : ∀ b, b < nx0 → pR nx0 new π s.nx b = π b := fun b hb => if_pos hb
  have klt : ∀ b ∈ bs.map (·.1), b < nx0 := fun b hb => by
    obtain ⟨x, hx, rfl⟩ := List.mem_map.1 hb
    exact (eachX_mem K.ok x hx).1
  have high : ∀ b ∈ new, pR nx0 new π s.nx b = s.nx + new.idxOf b := fun b hb => if_neg (by have := (hnew b hb).1; omega)
  have fzlt : ∀ x ∈ Fz, π x.1 < s.nx := fun x hx => by
    obtain ⟨ro, h⟩ := A.fz x hx
    exact A.keys _ (getB_mem h)
  have nd : (((bs.map (·.1)).map fun b => (π b, (objAt s1 b).ren (pR nx0 new π s.nx))).map (·.1)).Nodup := by
    rw [List.map_map]
    exact nodup_map_on A.inj K.nodup
  have getOld : ∀ b ∈ bs.map (·.1), (pushL (setL s ((bs.map (·.1)).map fun b => (π b, (objAt s1 b).ren (pR nx0 new π s.nx)))) (new.map fun b => (objAt s1 b).ren (pR nx0 new π s.nx))).get (π b) = some ((objAt s1 b).ren (pR nx0 new π s.nx)) := fun b hb => by
    rw [pushL_old (by rw [setL_nx]; exact A.lt hb)]
    obtain ⟨x, hx, rfl⟩ := List.mem_map.1 hb
    exact setL_at nd (List.mem_map.2 ⟨x.1, hb, rfl⟩) (eachX_mem A.at_ x hx)
  have getNew : ∀ b ∈ new, (pushL (setL s ((bs.map (·.1)).map fun b => (π b, (objAt s1 b).ren (pR nx0 new π s.nx)))) (new.map fun b => (objAt s1 b).ren (pR nx0 new π s.nx))).get (s.nx + new.idxOf b) = some ((objAt s1 b).ren (pR nx0 new π s.nx)) := fun b hb => by
    have hi : new[new.idxOf b]? = some b := by rw [List.getElem?_eq_getElem (List.idxOf_lt_length_of_mem hb), List.getElem_idxOf]
    have := pushL_new (l := new.map fun b => (objAt s1 b).ren (pR nx0 new π s.nx)) (s := setL s ((bs.map (·.1)).map fun b => (π b, (objAt s1 b).ren (pR nx0 new π s.nx)))) (i := new.idxOf b) (o := (objAt s1 b).ren (pR nx0 new π s.nx)) (by rw [List.getElem?_map, hi]; rfl)
    rw [setL_nx] at this
    exact this
  refine ⟨fun g hg => ?_, fun x hx => ?_, fun b hb x hx => ?_, fun b hb c hc h => hκi b hb c hc ?_, eachX_imp hκ fun x hx hh => ?_, fun k hk => ?_⟩
  · show pR nx0 new π s.nx (κ g) = g
    rw [hκg g hg, low g (by have := K.glob; omega), A.glob g hg]
  · obtain ⟨ro, h⟩ := A.fz x hx
    refine ⟨ro, ?_⟩
    show AS.get _ (pR nx0 new π s.nx (κ x.1)) = _
    rw [hκz x hx, low _ (K.fz x hx).1, pushL_old (by rw [setL_nx]; exact fzlt x hx), setL_other (fun hm => ?_)]
    · exact h
    · rw [List.map_map] at hm
      obtain ⟨c, hc, he⟩ := List.mem_map.1 hm
      exact A.out c hc x hx he
  · show pR nx0 new π s.nx (κ b) ≠ pR nx0 new π s.nx (κ x.1)
    rw [hκz x hx, low _ (K.fz x hx).1]
    obtain ⟨y, hy, rfl⟩ := List.mem_map.1 hb
    rcases (eachX_mem hκ y hy).1 with h | h
    · rw [low _ (klt _ h)]
      exact A.out _ h x hx
    · rw [high _ h]
      have := fzlt x hx
      omega
  · obtain ⟨y, hy, rfl⟩ := List.mem_map.1 hb
    obtain ⟨z, hz, rfl⟩ := List.mem_map.1 hc
    have h : pR nx0 new π s.nx (κ y.1) = pR nx0 new π s.nx (κ z.1) := h
    rcases (eachX_mem hκ y hy).1 with h1 | h1 <;> rcases (eachX_mem hκ z hz).1 with h2 | h2
    · rw [low _ (klt _ h1), low _ (klt _ h2)] at h
      exact A.inj _ h1 _ h2 h
    · rw [low _ (klt _ h1), high _ h2] at h
      have := A.lt h1
      omega
    · rw [high _ h1, low _ (klt _ h2)] at h
      have := A.lt h2
      omega
    · rw [high _ h1, high _ h2] at h
      have e : new.idxOf (κ y.1) = new.idxOf (κ z.1) := by omega
      have g1 := List.getElem_idxOf (List.idxOf_lt_length_of_mem h1)
      have g2 := List.getElem_idxOf (List.idxOf_lt_length_of_mem h2)
      rw [← g1, ← g2]
      simp only [e]
  · obtain ⟨h1, h2⟩ := hh
    have eo : objAt s1 (κ x.1) = x.2.ren κ := by simp [objAt, h2]
    show AS.get _ (pR nx0 new π s.nx (κ x.1)) = some (x.2.ren fun b => pR nx0 new π s.nx (κ b))
    rw [← oren_comp, ← eo]
    rcases h1 with h | h
    · rw [low _ (klt _ h)]
      exact getOld _ h
    · rw [high _ h]
      exact getNew _ h
  · have hsh : Shape s (pushL (setL s ((bs.map (·.1)).map fun b => (π b, (objAt s1 b).ren (pR nx0 new π s.nx)))) (new.map fun b => (objAt s1 b).ren (pR nx0 new π s.nx))) := (setL_shape _ _).trans (pushL_shape _ _)
    obtain ⟨ks, h1, _, h3⟩ := hsh.keys
    have hk : k ∈ keysOf (pushL (setL s ((bs.map (·.1)).map fun b => (π b, (objAt s1 b).ren (pR nx0 new π s.nx)))) (new.map fun b => (objAt s1 b).ren (pR nx0 new π s.nx))) := hk
    rw [h1] at hk
    rcases List.mem_append.1 hk with hk | hk
    · exact (h3 k hk).2
    · have : k < s.nx := A.keys k hk
      rw [pushL_nx, setL_nx]
      omega
/-- Code, where the small heap lies. -/
theorem At.step {c : Code} {T ts1 T' : List AV} {e : AExit} (h : Sound P (.code c T (canF bs Fz n0 nx0)) ⟨e, ts1, s1⟩) (hT : namess (fun b => Nat.blt b nx0) T = true) (hold : ∀ b ∈ bs.map (·.1), ((objAt s1 b).rw = true ∨ objAt s1 b = .dead) ∧ (objAt s1 b).names (pN nx0 new) = true)
    (hlow : ∀ b, b < nx0 → κ b < nx0 ∨ κ b ∈ new) (hT' : namess (fun b => Nat.blt b nx0) T' = true) (hts : seesT (fun b => b) (fun _ => true) (rens κ T') ts1) :
    ∃ s' π', Sound P (.code c (rens π T) s) ⟨e, rens π' T', s'⟩ ∧ At P bs' Fz s' π' := by
  have h' : Sound P (.code c T (canF bs Fz n0 nx0)) ⟨e, rens κ T', s1⟩ := by
    refine ⟨h.1, fun B ρ a w R ht => wp_mono (h.2 B ρ a w R ht) ?_⟩
    rintro e' a1 w1 ⟨rfl, ρ1, ht1, hp1⟩
    exact ⟨rfl, ρ1, ⟨seesT_rel (ρ := ρ1) (ρ' := ρ1) (fun _ _ _ h => h) hts ht1.rel, ht1.df⟩, hp1⟩
  have hp := Sound.putCG h' π (fun g hg => ⟨by have := K.glob; omega, A.glob g hg⟩) new s (fun x hx => ⟨(K.fz x hx).1, (K.fz x hx).2.1, (K.fz x hx).2.2, A.fz x hx, fun b hb => A.out b hb x hx⟩)
    (eachX_imp K.ok fun x hx hh => ⟨hh.1, hh.2.1, hh.2.2.1, hh.2.2.2, eachX_mem A.at_ x hx, (hold x.1 (List.mem_map.2 ⟨x, hx, rfl⟩)).1, (hold x.1 (List.mem_map.2 ⟨x, hx, rfl⟩)).2⟩) A.inj K.nodup hn hnew hT
    (namess_ren (fun b hb => by
      unfold pN
      rcases hlow b (by simpa using hb) with h | h
      · simp [h]
      · simp [h]) _ hT')
  rw [rens_comp] at hp
  exact ⟨_, _, hp, At.after A K hnew hκg hκz hκ hκi⟩
end
end
end Go.Mini

namespace Go.Mini
open Go Go.RowKit
section
variable {P : Program} {bs bs' : List (Nat × AObj)} {Fz : List (Nat × List AV)} {s s1 : AS} {π κ : Nat → Nat} {n0 nx0 : Nat} {new : List Nat} (A : At P bs Fz s π) (K : Kan P bs Fz nx0) (hn : new.Nodup) (hnew : ∀ b ∈ new, nx0 ≤ b ∧ (objAt s1 b).rw = true ∧ (objAt s1 b).names (pN nx0 new) = true)
  (hκg : ∀ g, g < P.globals.size → κ g = g) (hκz : ∀ x ∈ Fz, κ x.1 = x.1) (hκ : eachX (fun b o => (κ b ∈ bs.map (·.1) ∨ κ b ∈ new) ∧ s1.get (κ b) = some (o.ren κ)) bs') (hκi : ∀ b ∈ bs'.map (·.1), ∀ c ∈ bs'.map (·.1), κ b = κ c → b = c)
include A K hn hnew hκg hκz hκ hκi
end
end Go.Mini

