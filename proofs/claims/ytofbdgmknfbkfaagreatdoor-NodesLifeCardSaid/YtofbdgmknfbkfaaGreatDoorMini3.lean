/- An interpreter of our own, on abstract values, and the proof that what it says of a call is so in the model (part 3 of 3); under the conditions that its theorems name, and no others. -/
import Derived.KernelRfl
import Derived.Test.YtofbdgmknfbkfaaGreatDoorMini2
namespace Go.Mini
open Go Go.RowKit

/-! ### rows that grow by append, one element at a time -/
section
variable {P : Program}
/-- Rows of elements of n cells. -/
def rowT (P : Program) (t t2 : TypeId) (n : Nat) : Bool :=
  match P.underlying t with
  | some (.slice elem) => match P.underlying t2 with
    | some (.slice _) => match P.info? elem with
      | some i => match i.size, i.zero with
        | size + 1, some z => Nat.beq (size + 1) n && (Nat.ble i.bytes 4096 && Nat.beq z.cells.size (size + 1))
        | _, _ => false
      | none => false
    | _ => false
  | _ => false
theorem takeN_all {n : Nat} {a : List AV} (h : a.length = n) : takeN n a = some a := by
  have := takeN_row (n := n) (a := a) (b := []) h
  rwa [List.append_nil] at this
theorem rowT_inv {t t2 : TypeId} {n : Nat} (h : rowT P t t2 n = true) : ∃ elem e2 i z size, P.underlying t = some (.slice elem) ∧ P.underlying t2 = some (.slice e2) ∧ P.info? elem = some i ∧ i.size = size + 1 ∧ i.zero = some z ∧ size + 1 = n ∧ Nat.ble i.bytes 4096 = true ∧ Nat.beq z.cells.size (size + 1) = true := by
  unfold rowT at h
  split at h
  · rename_i elem h1
    split at h
    · rename_i e2 h2
      split at h
      · rename_i i h3
        split at h
        · rename_i size z h4 h5
          simp only [Bool.and_eq_true] at h
          exact ⟨elem, e2, i, z, size, h1, h2, h3, h4, h5, Nat.eq_of_beq_eq_true h.1, h.2.1, h.2.2⟩
        · cases h
      · cases h
    · cases h
  · cases h
theorem app_nil {t t2 : TypeId} {n b2 c2 : Nat} {s : AS} {ro : Bool} {E : List AV} (ht : rowT P t t2 n = true) (h2 : s.get b2 = some (.cells ro E)) (hE : E.length = n) (ho : E.all AV.one = true) :
    appendA P s t t2 .nilSlice (.slice b2 0 1 c2) = some (.osl s.nx 0 1 n, s.push (.cells false E)) := by
  obtain ⟨elem, e2, i, z, size, u1, u2, u3, u4, u5, rfl, u6, u7⟩ := rowT_inv ht
  have hf : firstA s (size + 1) 1 (.slice b2 0 1 c2) = some E := by
    simp only [firstA, readA, h2, List.drop_zero, Nat.one_mul]
    exact takeN_all hE
  simp only [appendA, u1, u2, u3, u4, u5, sliceLen, u6, u7, hf, ho, Bool.and_self, Bool.not_true, Bool.false_eq_true, if_false]
  rfl
theorem app_osl {t t2 : TypeId} {n b b2 c2 k : Nat} {s : AS} {ro : Bool} {E R : List AV} (ht : rowT P t t2 n = true) (hb : s.get b = some (.cells false R)) (hR : R.length = k * n) (hr : R.all AV.one = true) (h2 : s.get b2 = some (.cells ro E)) (hE : E.length = n) (ho : E.all AV.one = true)
    (hk : k < 16777216) : appendA P s t t2 (.osl b 0 k n) (.slice b2 0 1 c2) = some (.osl s.nx 0 (k + 1) n, (s.set b .dead).push (.cells false (R ++ E))) := by
  obtain ⟨elem, e2, i, z, size, u1, u2, u3, u4, u5, rfl, u6, u7⟩ := rowT_inv ht
  have hf : firstA s (size + 1) 1 (.slice b2 0 1 c2) = some E := by
    simp only [firstA, readA, h2, List.drop_zero, Nat.one_mul]
    exact takeN_all hE
  have hd : readA s b 0 (k * (size + 1)) = some R := by
    simp only [readA, hb, List.drop_zero]
    exact takeN_all hR
  have hs : small (k + 1) = true := by
    unfold small
    exact Nat.ble_eq_true_of_le (by omega)
  have hw : rwAt s b = true := by simp only [rwAt, hb]
  have hz : Nat.beq (size + 1) (size + 1) = true := Nat.beq_refl _
  have h10 : Nat.beq 1 0 = false := rfl
  simp only [appendA, u1, u2, u3, u4, u5, sliceLen, u6, u7, hf, ho, hd, hs, hw, hr, hz, h10, Bool.and_self, Bool.not_true, Bool.false_eq_true, if_false, if_true]

theorem rens_no {π : Nat → Nat} {l : List AV} (h : namess (fun _ => false) l = true) : rens π l = l := by
  rw [rens_congr (p := fun _ => false) (π' := fun b => b) (fun _ h => by cases h) h, rens_id]
mutual
theorem names_sub {p q : Nat → Bool} (hpq : ∀ b, p b = true → q b = true) : ∀ {a : AV}, a.names p = true → a.names q = true
  | .bool _, _ => rfl
  | .int _ _, _ => rfl
  | .str _, _ => rfl
  | .nilPtr, _ => rfl
  | .ptr _ _, h => hpq _ h
  | .nilSlice, _ => rfl
  | .slice _ _ _ _, h => hpq _ h
  | .osl _ _ _ _, h => hpq _ h
  | .nilMap, _ => rfl
  | .map _, h => hpq _ h
  | .func _ fs cs, h => by
    simp only [AV.names, Bool.and_eq_true] at h ⊢
    exact ⟨namess_sub hpq h.1, namess_sub hpq h.2⟩
  | .nilFunc, _ => rfl
  | .iface _ x, h => by
    simp only [AV.names] at h ⊢
    exact names_sub hpq h
  | .nilIface, _ => rfl
  | .agg cs, h => by
    simp only [AV.names] at h ⊢
    exact namess_sub hpq h
  | .tuple cs, h => by
    simp only [AV.names] at h ⊢
    exact namess_sub hpq h
theorem namess_sub {p q : Nat → Bool} (hpq : ∀ b, p b = true → q b = true) : ∀ {l : List AV}, namess p l = true → namess q l = true
  | [], _ => rfl
  | a :: l, h => by
    simp only [namess, Bool.and_eq_true] at h ⊢
    exact ⟨names_sub hpq h.1, namess_sub hpq h.2⟩
end
theorem namesE_sub {p q : Nat → Bool} (hpq : ∀ b, p b = true → q b = true) : ∀ {l : List (AV × AV)}, namesE p l = true → namesE q l = true
  | [], _ => rfl
  | (k, v) :: l, h => by
    simp only [namesE, Bool.and_eq_true] at h ⊢
    exact ⟨⟨names_sub hpq h.1.1, names_sub hpq h.1.2⟩, namesE_sub hpq h.2⟩
theorem onames_sub {p q : Nat → Bool} (hpq : ∀ b, p b = true → q b = true) {o : AObj} (h : o.names p = true) : o.names q = true := by
  cases o with
  | cells ro cs => exact namess_sub hpq h
  | map es bn ck => exact namesE_sub hpq h
  | dead => rfl

theorem getB_cons {b n : Nat} {o : AObj} {t : List (Nat × AObj)} : getB ((n, o) :: t) b = if n = b then some o else getB t b := by
  simp only [getB]
  by_cases h : n = b
  · rw [if_pos h, if_pos (by rw [h]; exact Nat.beq_refl _)]
  · rw [if_neg h, if_neg (fun e => h (Nat.eq_of_beq_eq_true e))]

end
end Go.Mini

namespace Go.Mini
open Go Go.RowKit

/-! ### calls: what was written ahead does not matter; names that are passed over -/
section
variable {P : Program}
end
end Go.Mini

namespace Go.Mini
open Go Go.RowKit

/-! ### a frame for code: what is so of a small state is so wherever its blocks lie -/
section
variable {P : Program}
end
end Go.Mini

namespace Go.Mini
open Go Go.RowKit

/-! ### names, renamed twice -/
mutual
theorem ren_comp {π π' : Nat → Nat} : ∀ a : AV, (a.ren π).ren π' = a.ren (fun b => π' (π b))
  | .bool _ => rfl
  | .int _ _ => rfl
  | .str _ => rfl
  | .nilPtr => rfl
  | .ptr _ _ => rfl
  | .nilSlice => rfl
  | .slice _ _ _ _ => rfl
  | .osl _ _ _ _ => rfl
  | .nilMap => rfl
  | .map _ => rfl
  | .func _ fs cs => by simp only [AV.ren, rens_comp fs, rens_comp cs]
  | .nilFunc => rfl
  | .iface _ x => by simp only [AV.ren, ren_comp x]
  | .nilIface => rfl
  | .agg cs => by simp only [AV.ren, rens_comp cs]
  | .tuple cs => by simp only [AV.ren, rens_comp cs]
theorem rens_comp {π π' : Nat → Nat} : ∀ l : List AV, rens π' (rens π l) = rens (fun b => π' (π b)) l
  | [] => rfl
  | a :: l => by simp only [rens, ren_comp a, rens_comp l]
end
theorem renE_comp {π π' : Nat → Nat} : ∀ l : List (AV × AV), renE π' (renE π l) = renE (fun b => π' (π b)) l
  | [] => rfl
  | (k, v) :: l => by simp only [renE, ren_comp k, ren_comp v, renE_comp l]
theorem oren_comp {π π' : Nat → Nat} (o : AObj) : (o.ren π).ren π' = o.ren (fun b => π' (π b)) := by
  cases o <;> simp only [AObj.ren, rens_comp, renE_comp]
mutual
theorem names_ren {p q : Nat → Bool} {π : Nat → Nat} (h : ∀ b, q b = true → p (π b) = true) : ∀ a : AV, a.names q = true → (a.ren π).names p = true
  | .bool _, _ => rfl
  | .int _ _, _ => rfl
  | .str _, _ => rfl
  | .nilPtr, _ => rfl
  | .ptr _ _, hq => h _ hq
  | .nilSlice, _ => rfl
  | .slice _ _ _ _, hq => h _ hq
  | .osl _ _ _ _, hq => h _ hq
  | .nilMap, _ => rfl
  | .map _, hq => h _ hq
  | .func _ fs cs, hq => by
    simp only [AV.names, AV.ren, Bool.and_eq_true] at hq ⊢
    exact ⟨namess_ren h fs hq.1, namess_ren h cs hq.2⟩
  | .nilFunc, _ => rfl
  | .iface _ x, hq => by
    simp only [AV.names, AV.ren] at hq ⊢
    exact names_ren h x hq
  | .nilIface, _ => rfl
  | .agg cs, hq => by
    simp only [AV.names, AV.ren] at hq ⊢
    exact namess_ren h cs hq
  | .tuple cs, hq => by
    simp only [AV.names, AV.ren] at hq ⊢
    exact namess_ren h cs hq
theorem namess_ren {p q : Nat → Bool} {π : Nat → Nat} (h : ∀ b, q b = true → p (π b) = true) : ∀ l : List AV, namess q l = true → namess p (rens π l) = true
  | [], _ => rfl
  | a :: l, hq => by
    simp only [namess, rens, Bool.and_eq_true] at hq ⊢
    exact ⟨names_ren h a hq.1, namess_ren h l hq.2⟩
end
/-! ### a canonical state, wherever it lies -/
/-- Fz: the frozen blocks, which keep their names. -/
structure InAt (P : Program) (Fz : List (Nat × List AV)) (C s : AS) (π : Nat → Nat) (foot : List Nat) : Prop where
  glob : ∀ g, g < P.globals.size → g < C.nx ∧ π g = g
  zero : π 0 = 0
  keys : ∀ k ∈ C.h.bs.map (·.1), k < C.nx
  inj : ∀ b ∈ foot, ∀ c ∈ foot, π b = π c → b = c
  nodup : foot.Nodup
  ro : ∀ b o, C.get b = some o → b ∉ foot → ∃ cs, o = .cells true cs ∧ (b, cs) ∈ Fz
  fz : ∀ x ∈ Fz, π x.1 = x.1 ∧ x.1 < C.nx ∧ x.1 ∉ foot ∧ namess (fun _ => false) x.2 = true ∧ C.get x.1 = some (.cells true x.2) ∧ s.get x.1 = some (.cells true x.2) ∧ ∀ c ∈ foot, π c ≠ x.1
  rw : ∀ b ∈ foot, ∃ o, C.get b = some o ∧ o.rw = true ∧ o.names (fun c => Nat.blt c C.nx) = true ∧ s.get (π b) = some (o.ren π)
/-- Behind code that began in C: C' lies in s' by π'; all else there is dead. -/
structure OutAt (P : Program) (Fz : List (Nat × List AV)) (C s' : AS) (foot : List Nat) (C' : AS) (π' : Nat → Nat) (foot' : List Nat) : Prop where
  in_ : InAt P Fz C' s' π' foot'
  nx : C.nx ≤ s'.nx
  keys : ∀ k ∈ s'.h.bs.map (·.1), k < s'.nx
  cover : ∀ b o, s'.get b = some o → o = .dead ∨ (o.rw = true ∧ o.names (fun _ => false) = true) ∨ ∃ c o', C'.get c = some o' ∧ π' c = b
  range : ∀ c, c < C'.nx → c ∈ foot' ∨ π' c = 0 ∨ ∃ cs, (c, cs) ∈ Fz
  stays : ∀ b, b < C.nx → b ∉ foot → s'.get b = C.get b

section
variable {P : Program} {Fz : List (Nat × List AV)} {C s1 C1 s2 C2 : AS} {foot foot1 foot2 : List Nat} {π1 π2 : Nat → Nat}
end

section
variable {P : Program} {Fz : List (Nat × List AV)} {C C1 C2 : AS} {foot foot1 foot2 : List Nat} {T T1 T2 : List AV} {e : AExit}
end

end Go.Mini

namespace Go.Mini
open Go Go.RowKit

/-! ### maps whose keys and values are numbers, with any entries -/
def mapE (kd vk : IntKind) (es : List (Int × Int)) : List (AV × AV) := es.map fun x => (.int kd x.1, .int vk x.2)
def getM : List (Int × Int) → Int → Option Int
  | [], _ => none
  | x :: t, n => if n = x.1 then some x.2 else getM t n
def putM : List (Int × Int) → Int → Int → List (Int × Int)
  | [], n, v => [(n, v)]
  | x :: t, n, v => if n = x.1 then (n, v) :: t else x :: putM t n v
def delM : List (Int × Int) → Int → List (Int × Int)
  | [], _ => []
  | x :: t, n => if n = x.1 then t else x :: delM t n
section
variable {P : Program} {kt et t : TypeId} {kd vk : IntKind}
theorem find_mapE (hk : P.underlying kt = some (.int kd)) {s : AS} {n : Int} : ∀ (es : List (Int × Int)) (i : Nat),
    (getM es n = none ∧ findA P s kt (.int kd n) (mapE kd vk es) i = some none) ∨
    (∃ x p, getM es n = some x ∧ findA P s kt (.int kd n) (mapE kd vk es) i = some (some (i + p, .int kd n, .int vk x)) ∧ (∀ v, setAt (mapE kd vk es) p (.int kd n, .int vk v) = mapE kd vk (putM es n v)) ∧ eraseAt (mapE kd vk es) p = mapE kd vk (delM es n))
  | [], _ => .inl ⟨rfl, rfl⟩
  | x :: l, i => by
    have he : eqA P s 8 kt (.int kd n) (.int kd x.1) = some (n == x.1) := by
      simp only [eqA, hk, eqInt, if_true]
    by_cases h : n = x.1
    · refine .inr ⟨x.2, 0, by simp only [getM, if_pos h], ?_, fun v => ?_, ?_⟩
      · rw [show mapE kd vk (x :: l) = (.int kd x.1, .int vk x.2) :: mapE kd vk l from rfl]
        have hn : (n == x.1) = true := by simpa using h
        rw [hn] at he
        simp only [findA, he, Nat.add_zero]
        rw [h]
      · simp only [putM, if_pos h]
        rfl
      · simp only [delM, if_pos h]
        rfl
    · have hn : (n == x.1) = false := by simpa using h
      have step : findA P s kt (.int kd n) (mapE kd vk (x :: l)) i = findA P s kt (.int kd n) (mapE kd vk l) (i + 1) := by
        rw [show mapE kd vk (x :: l) = (.int kd x.1, .int vk x.2) :: mapE kd vk l from rfl]
        rw [hn] at he
        simp only [findA, he]
      rw [step]
      rcases find_mapE hk l (i + 1) with ⟨h1, h2⟩ | ⟨y, p, h1, h2, h3, h4⟩
      · exact .inl ⟨by simp only [getM, if_neg h, h1], h2⟩
      · refine .inr ⟨y, p + 1, by simp only [getM, if_neg h, h1], ?_, fun v => ?_, ?_⟩
        · rw [h2, show i + 1 + p = i + (p + 1) from by omega]
        · simp only [putM, if_neg h]
          show _ :: setAt (mapE kd vk l) p _ = _
          rw [h3 v]
          rfl
        · simp only [delM, if_neg h]
          show _ :: eraseAt (mapE kd vk l) p = _
          rw [h4]
          rfl
theorem put_new (n v : Int) : ∀ es, getM es n = none → mapE kd vk (putM es n v) = mapE kd vk es ++ [(.int kd n, .int vk v)]
  | [], _ => rfl
  | x :: l, h => by
    simp only [getM] at h
    split at h
    · cases h
    · rename_i hn
      simp only [putM, if_neg hn]
      show _ :: mapE kd vk (putM l n v) = _
      rw [put_new n v l h]
      rfl
theorem key_num (hk : P.underlying kt = some (.int kd)) (n : Int) : keyA P 4 kt (.int kd n) = true := by
  simp only [keyA, hk]
/-- m[k], or v, ok := m[k]. -/
theorem lk_mapE (ht : P.underlying t = some (.map kt et)) (hk : P.underlying kt = some (.int kd)) (hz : zeroA P et = some (.int vk 0)) {s : AS} {b ck : Nat} {bn : List Nat} {es : List (Int × Int)} {n : Int} (hs : s.get b = some (.map (mapE kd vk es) bn ck)) (ok : Bool) :
    lookupA P s t (.map b) (.int kd n) ok = some (if ok then .tuple [.int vk ((getM es n).getD 0), .bool (getM es n).isSome] else .int vk ((getM es n).getD 0)) := by
  simp only [lookupA, ht, key_num hk, if_true, mapOf, hs]
  rcases find_mapE (vk := vk) hk (s := s) (n := n) es 0 with ⟨h1, h2⟩ | ⟨x, p, h1, h2, _⟩
  · rw [h2, h1]
    simp only [hz]
    rfl
  · rw [h2, h1]
    rfl
end
end Go.Mini

namespace Go.Mini
open Go Go.RowKit

/-! ### a call's contract, proved on a small heap, wherever its blocks lie -/
section
variable {P : Program}
def eachX (f : Nat → AObj → Prop) : List (Nat × AObj) → Prop
  | [] => True
  | x :: t => f x.1 x.2 ∧ eachX f t
theorem eachX_mem {f : Nat → AObj → Prop} : ∀ {bs : List (Nat × AObj)}, eachX f bs → ∀ x ∈ bs, f x.1 x.2
  | _ :: _, h, x, hx => by
    rcases List.mem_cons.1 hx with rfl | hx
    · exact h.1
    · exact eachX_mem h.2 x hx
def pN (nx0 : Nat) (new : List Nat) (b : Nat) : Bool := Nat.blt b nx0 || new.contains b
def pR (nx0 : Nat) (new : List Nat) (π : Nat → Nat) (n : Nat) (b : Nat) : Nat := if b < nx0 then π b else n + new.idxOf b
/-- The same state, told otherwise. -/
theorem Sound.recast {f : FuncId} {args : List AV} {e : AExit} {vs : List AV} {s s1 s2 : AS} (h : Sound P (.call f args s) ⟨e, vs, s1⟩) (hs : ∀ b, s2.get b = s1.get b) (hk : keysOf s2 = keysOf s1) (hnx : s2.nx = s1.nx) (hlen : s2.h.len = s1.h.len)
    (hlog : ∃ l, s2.h.wr = l ++ s.h.wr ∧ ∀ b, b < s.nx → b ∉ l → s2.get b = s.get b) : Sound P (.call f args s) ⟨e, vs, s2⟩ := by
  intro B ρ cargs w R hc
  refine Calls.mono (h B ρ cargs w R hc) fun en w1 hr => ?_
  obtain ⟨v', u, ρ1, e1, e2, e3, hp⟩ := hr
  refine ⟨v', u, ρ1, e1, e2, e3, ⟨hp.rel.congr hs hk hnx, hp.ext, fun b hb hn => (hs b).trans (hp.unt b hb hn), ⟨by rw [hnx]; exact hp.shape.nx, ?_, hlog⟩, hp.size⟩⟩
  obtain ⟨ks, h1, h2, h3⟩ := hp.shape.keys
  exact ⟨ks, hk.trans h1, hlen.trans h2, fun k hk' => by rw [hnx]; exact h3 k hk'⟩

theorem setB_keys (b : Nat) (o : AObj) : ∀ l : List (Nat × AObj), (setB l b o).map (·.1) = l.map (·.1)
  | [] => rfl
  | x :: t => by
    simp only [setB]
    split
    · rfl
    · simp only [List.map_cons, setB_keys b o t]
theorem getB_setB (b : Nat) (o : AObj) (c : Nat) : ∀ l : List (Nat × AObj), getB (setB l b o) c = if c = b then (getB l b).map fun _ => o else getB l c
  | [] => by simp only [setB, getB]; split <;> rfl
  | x :: t => by
    have beqd : ∀ x y : Nat, Nat.beq x y = decide (x = y) := fun x y => by
      cases hxy : Nat.beq x y with
      | true => simp [Nat.eq_of_beq_eq_true hxy]
      | false => simp [Nat.ne_of_beq_eq_false hxy]
    by_cases h1 : x.1 = b
    · by_cases h2 : c = b
      · subst h2
        simp [setB, getB, h1]
      · have h3 : ¬ x.1 = c := fun h => h2 (by rw [← h, h1])
        have h3' : ¬ b = c := fun h => h2 h.symm
        simp [setB, getB, h1, h2, h3', beqd]
    · by_cases h2 : c = b
      · subst h2
        have ih := getB_setB c o c t
        simp only [if_true] at ih
        simp [setB, getB, h1, beqd, ih]
      · have ih := getB_setB b o c t
        rw [if_neg h2] at ih
        by_cases h3 : x.1 = c <;> simp [setB, getB, h1, h2, h3, beqd, ih]
theorem get_set_ne {s : AS} {b c : Nat} {o : AObj} (h : c ≠ b) : (s.set b o).get c = s.get c := by
  show getB (setB s.h.bs b o) c = _
  rw [getB_setB, if_neg h]
  rfl
theorem get_set_eq {s : AS} {b : Nat} {o q : AObj} (h : s.get b = some q) : (s.set b o).get b = some o := by
  show getB (setB s.h.bs b o) b = _
  have h : getB s.h.bs b = some q := h
  rw [getB_setB, if_pos rfl, h]
  rfl
theorem get_set_same {s : AS} {b : Nat} {o : AObj} (h : s.get b = some o) (c : Nat) : (s.set b o).get c = s.get c := by
  by_cases hc : c = b
  · subst hc
    rw [get_set_eq h, h]
  · exact get_set_ne hc
theorem get_push (s : AS) (o : AObj) (c : Nat) : (s.push o).get c = if s.nx = c then some o else s.get c := getB_cons
/-- A block that nothing stands for may be thought of. -/
theorem Sound.phantom {f : FuncId} {args : List AV} {s : AS} {r : Res} (o : AObj) (h : Sound P (.call f args (s.push o)) r) : Sound P (.call f args s) r := by
  intro B ρ cargs w R hc
  refine Calls.mono (h B ρ cargs w (R.pushNone o) hc) fun en w1 hr => ?_
  obtain ⟨v', u, ρ1, e1, e2, e3, hp⟩ := hr
  have nxe : (s.push o).nx = s.nx + 1 := rfl
  refine ⟨v', u, ρ1, e1, e2, e3, ⟨hp.rel, fun b hb => hp.ext b (by rw [nxe]; omega), fun b hb hn => ?_, ⟨?_, ?_, ?_⟩, hp.size⟩⟩
  · rw [hp.unt b (by rw [nxe]; omega) hn, get_push, if_neg (by omega)]
  · have := hp.shape.nx
    rw [nxe] at this
    omega
  · obtain ⟨ks, h1, h2, h3⟩ := hp.shape.keys
    refine ⟨ks ++ [s.nx], ?_, ?_, fun k hk => ?_⟩
    · rw [h1]
      show ks ++ (s.nx :: keysOf s) = _
      simp
    · rw [h2]
      show s.h.len + 1 + ks.length = _
      simp
      omega
    · have hx := hp.shape.nx
      rw [nxe] at hx
      rcases List.mem_append.1 hk with hk | hk
      · have := h3 k hk
        rw [nxe] at this
        omega
      · simp only [List.mem_singleton] at hk
        omega
  · obtain ⟨l, h1, h2⟩ := hp.shape.log
    refine ⟨l, h1, fun b hb hn => ?_⟩
    rw [h2 b (by rw [nxe]; omega) hn, get_push, if_neg (by omega)]

/-! ### the parts of code -/
end
end Go.Mini

namespace Go.Mini

/-! ### rows of numbers, sorted by what each has, and by themselves where that is alike: the plain side of a stable sort -/
section
variable (k : Nat → Int)
end
section
variable {k : Nat → Int}
/-! ### rows, cut -/
theorem set_mid {α : Type} (P : List α) (x y : α) (T : List α) : (P ++ x :: T).set P.length y = P ++ y :: T := by
  rw [List.set_append_right _ _ (Nat.le_refl _)]
  simp
end
end Go.Mini

namespace Go.Mini
open Go Go.RowKit

/-! ### canonical states: rows in block 0, and blocks of the code's own -/
/-- It names nothing, and may be written. -/
def Free (o : AObj) : Prop := o.rw = true ∧ o.names (fun _ => false) = true
theorem getB_entry {b : Nat} {o : AObj} : ∀ {l : List (Nat × AObj)}, getB l b = some o → ∃ y ∈ l, y.1 = b ∧ y.2 = o
  | [], h => by cases h
  | y :: t, h => by
    simp only [getB] at h
    split at h
    · rename_i hb
      exact ⟨y, by simp, Nat.eq_of_beq_eq_true hb, by simpa using h⟩
    · obtain ⟨z, h1, h2⟩ := getB_entry h
      exact ⟨z, by simp [h1], h2⟩
theorem getB_both {b : Nat} {l m : List (Nat × AObj)} : getB (l ++ m) b = match getB l b with
    | some o => some o
    | none => getB m b := by
  induction l with
  | nil => rfl
  | cons x t ih =>
    simp only [List.cons_append, getB]
    split
    · rfl
    · exact ih
def canS (bsC : List (Nat × AObj)) (row : List AV) (lC nxC : Nat) : AS := ⟨⟨bsC ++ [(0, .cells true row)], lC, none, []⟩, nxC⟩
section
variable {P : Program} {bsC : List (Nat × AObj)} {row : List AV} {lC nxC : Nat}
theorem can_keys (b : Nat) : b ∈ (canS bsC row lC nxC).h.bs.map (·.1) ↔ b ∈ bsC.map (·.1) ∨ b = 0 := by
  unfold canS
  simp
theorem can_zero (hz : ∀ x ∈ bsC, 0 < x.1) : (canS bsC row lC nxC).get 0 = some (.cells true row) := by
  show getB (bsC ++ [(0, .cells true row)]) 0 = _
  rw [getB_both, getB_none (fun hm => by
    obtain ⟨x, hx, h0⟩ := List.mem_map.1 hm
    have := hz x hx
    omega)]
  rfl
end

/-- A call's contract, proved on a small heap of rows that came in, and blocks of the call's own, wherever they lie. -/
theorem Sound.putR {P : Program} {f : FuncId} {args : List AV} {e : AExit} {v : AV} {s1 : AS} {bs0 : List (Nat × AObj)} {row : List AV} {n0 nx0 : Nat} (h : Sound P (.call f args (canS bs0 row n0 nx0)) ⟨e, [v], s1⟩) (hg : P.globals.size = 0) (π : Nat → Nat) (new : List Nat) (s : AS)
    (hnm : namess (fun _ => false) row = true) (h0 : ∃ ro, s.get (π 0) = some (.cells ro row)) (hn0 : 0 < nx0)
    (hb : eachX (fun b o => 0 < b ∧ b < nx0 ∧ o.rw = true ∧ o.names (fun c => Nat.blt c nx0) = true ∧ getB bs0 b = some o ∧ s.get (π b) = some (o.ren π) ∧ ((objAt s1 b).rw = true ∨ objAt s1 b = .dead) ∧ (objAt s1 b).names (pN nx0 new) = true) bs0)
    (hi : ∀ b ∈ bs0.map (·.1), ∀ c ∈ bs0.map (·.1), π b = π c → b = c) (hi0 : ∀ b ∈ bs0.map (·.1), π b ≠ π 0) (hd : (bs0.map (·.1)).Nodup) (hn : new.Nodup) (hf : ∀ b ∈ new, nx0 ≤ b ∧ (objAt s1 b).rw = true ∧ (objAt s1 b).names (pN nx0 new) = true)
    (ha : namess (fun b => Nat.blt b nx0) args = true) (hv : v.names (pN nx0 new) = true) :
    Sound P (.call f (rens π args) s) ⟨.ret, [v.ren (pR nx0 new π s.nx)], pushL (setL s ((bs0.map (·.1)).map fun b => (π b, (objAt s1 b).ren (pR nx0 new π s.nx)))) (new.map fun b => (objAt s1 b).ren (pR nx0 new π s.nx))⟩ := by
  have hz : ∀ x ∈ bs0, 0 < x.1 := fun x hx => (eachX_mem hb x hx).1
  refine Sound.frame2 (s0 := canS bs0 row n0 nx0) h (p := pN nx0 new) ⟨fun g hg' => by omega, fun k hk => ?_, hi, hd, fun b o hb' hnf => ?_, fun b hbm => ?_, hn, hf, fun b hb' => if_pos hb', fun i b hib => ?_, fun b hp => ?_, fun b hbm => ?_⟩ ha hv .ret
  · rcases (can_keys k).1 hk with hk | hk
    · obtain ⟨x, hx, rfl⟩ := List.mem_map.1 hk
      exact (eachX_mem hb x hx).2.1
    · rw [hk]
      exact hn0
  · have hb0 : b = 0 := by
      have hm := getB_mem hb'
      exact ((can_keys b).1 hm).resolve_left hnf
    subst hb0
    rw [can_zero hz] at hb'
    obtain ⟨ro, hro⟩ := h0
    refine ⟨row, ro, (Option.some.inj hb').symm, namess_sub (fun _ h => by cases h) hnm, ?_, hi0⟩
    rw [rens_no hnm]
    exact hro
  · obtain ⟨x, hx, rfl⟩ := List.mem_map.1 hbm
    obtain ⟨_, _, h2, h3, h4, h5, _⟩ := eachX_mem hb x hx
    refine ⟨x.2, ?_, h2, h3, h5⟩
    show getB (bs0 ++ [(0, .cells true row)]) x.1 = _
    rw [getB_both, h4]
  · have hm := List.mem_of_getElem? hib
    have := (hf b hm).1
    show (if b < nx0 then π b else s.nx + new.idxOf b) = s.nx + i
    rw [if_neg (by omega)]
    have hlt : i < new.length := (List.getElem?_eq_some_iff.1 hib).1
    have hbe : new[i] = b := (List.getElem?_eq_some_iff.1 hib).2
    rw [← hbe, List.Nodup.idxOf_getElem hn i hlt]
  · unfold pN at hp
    rcases Bool.or_eq_true _ _ ▸ hp with h1 | h1
    · exact .inl (show b < nx0 by simpa using h1)
    · exact .inr (by simpa using h1)
  · obtain ⟨x, hx, rfl⟩ := List.mem_map.1 hbm
    obtain ⟨_, _, _, _, _, _, h6, h7⟩ := eachX_mem hb x hx
    exact ⟨h6, h7⟩
theorem call_whole {P : Program} {f : FuncId} {fn : Func} {c : Code} {args ts vs : List AV} {bs : List (Nat × AObj)} {len nx : Nat} {s' : AS} {e : AExit} (hf : P.funcs[f]? = some fn) (hb : fn.body = some c)
    (hx : Sound P (.code c (args ++ List.replicate (fn.ntmps - args.length) undefA) ⟨⟨bs, len, none, []⟩, nx⟩) ⟨e, ts, s'⟩) (he : e = .normal ∨ e = .ret) (hvs : resultsA P ts s' fn.results.toList = some vs) :
    Sound P (.call f args ⟨⟨bs, len, none, []⟩, nx⟩) ⟨.ret, [oneOrTuple vs], s'⟩ := by
  intro B ρ cargs w R hargs
  have ht0 : TR ρ (args ++ List.replicate (fn.ntmps - args.length) undefA) { tmps := cargs.toArray ++ Array.replicate (fn.ntmps - cargs.toArray.size) undef, defers := [] } := by
    refine ⟨?_, rfl⟩
    have hl := hargs.length
    simp only [Array.toList_append, Array.toList_replicate, List.size_toArray]
    rw [← hl]
    exact hargs.append (VRels.replicate _ vrel_undef)
  refine calls_of_wp hf hb (wp_mono (hx.2 B ρ _ w R ht0) ?_)
  rintro e' a1 w1 ⟨rfl, ρ1, ht1, hp1⟩
  obtain ⟨u, hu, hr⟩ := results_all hp1.rel ht1 hvs
  rcases he with rfl | rfl
  · exact ⟨ht1.df, u, hu, _, u, ρ1, rfl, rfl, hr, hp1⟩
  · exact ⟨ht1.df, u, hu, _, u, ρ1, rfl, rfl, hr, hp1⟩
end Go.Mini

namespace Go.Mini
open Go Go.RowKit

/-! ### canonical states with rows in more than one block -/
def frz (Fz : List (Nat × List AV)) : List (Nat × AObj) := Fz.map fun x => (x.1, .cells true x.2)
def canF (bsC : List (Nat × AObj)) (Fz : List (Nat × List AV)) (lC nxC : Nat) : AS := ⟨⟨bsC ++ frz Fz, lC, none, []⟩, nxC⟩
section
variable {P : Program} {bsC : List (Nat × AObj)} {Fz : List (Nat × List AV)} {lC nxC : Nat}
theorem canF_keys (b : Nat) : b ∈ (canF bsC Fz lC nxC).h.bs.map (·.1) ↔ b ∈ bsC.map (·.1) ∨ ∃ x ∈ Fz, x.1 = b := by
  unfold canF frz
  simp
theorem frz_get {b : Nat} {o : AObj} (h : getB (frz Fz) b = some o) : ∃ x ∈ Fz, x.1 = b ∧ o = .cells true x.2 := by
  obtain ⟨y, hy, h1, h2⟩ := getB_entry h
  obtain ⟨x, hx, rfl⟩ := List.mem_map.1 hy
  exact ⟨x, hx, h1, h2.symm⟩
theorem canF_get (b : Nat) : (canF bsC Fz lC nxC).get b = match getB bsC b with
    | some o => some o
    | none => getB (frz Fz) b := by
  show getB (bsC ++ frz Fz) b = _
  exact getB_both
end
end Go.Mini

namespace Go.Mini
open Go Go.RowKit

/-! ### as in the text before this one, of programs that have laid variables: they keep their names -/
section
variable {P : Program} {bsC : List (Nat × AObj)} {Fz : List (Nat × List AV)} {lC nxC : Nat}
end
theorem placed_putG {P : Program} {s1 : AS} {bs0 : List (Nat × AObj)} {Fz : List (Nat × List AV)} {n0 nx0 : Nat} (π : Nat → Nat) (hg : ∀ g, g < P.globals.size → g < nx0 ∧ π g = g) (new : List Nat) (s : AS)
    (hF : ∀ x ∈ Fz, x.1 < nx0 ∧ x.1 ∉ bs0.map (·.1) ∧ namess (fun _ => false) x.2 = true ∧ (∃ ro, s.get (π x.1) = some (.cells ro x.2)) ∧ ∀ b ∈ bs0.map (·.1), π b ≠ π x.1)
    (hb : eachX (fun b o => b < nx0 ∧ o.rw = true ∧ o.names (fun c => Nat.blt c nx0) = true ∧ getB bs0 b = some o ∧ s.get (π b) = some (o.ren π) ∧ ((objAt s1 b).rw = true ∨ objAt s1 b = .dead) ∧ (objAt s1 b).names (pN nx0 new) = true) bs0)
    (hi : ∀ b ∈ bs0.map (·.1), ∀ c ∈ bs0.map (·.1), π b = π c → b = c) (hd : (bs0.map (·.1)).Nodup) (hn : new.Nodup) (hf : ∀ b ∈ new, nx0 ≤ b ∧ (objAt s1 b).rw = true ∧ (objAt s1 b).names (pN nx0 new) = true) :
    Placed P (canF bs0 Fz n0 nx0) s1 s π (pR nx0 new π s.nx) (bs0.map (·.1)) new (pN nx0 new) := by
  refine ⟨hg, fun k hk => ?_, hi, hd, fun b o hb' hnf => ?_, fun b hbm => ?_, hn, hf, fun b hb' => if_pos hb', fun i b hib => ?_, fun b hp => ?_, fun b hbm => ?_⟩
  · rcases (canF_keys k).1 hk with hk | ⟨x, hx, rfl⟩
    · obtain ⟨x, hx, rfl⟩ := List.mem_map.1 hk
      exact (eachX_mem hb x hx).1
    · exact (hF x hx).1
  · rw [canF_get, getB_none hnf] at hb'
    obtain ⟨x, hx, rfl, rfl⟩ := frz_get hb'
    obtain ⟨_, _, hnm, ⟨ro, hro⟩, hap⟩ := hF x hx
    refine ⟨x.2, ro, rfl, namess_sub (fun _ h => by cases h) hnm, ?_, hap⟩
    rw [rens_no hnm]
    exact hro
  · obtain ⟨x, hx, rfl⟩ := List.mem_map.1 hbm
    obtain ⟨_, h2, h3, h4, h5, _⟩ := eachX_mem hb x hx
    refine ⟨x.2, ?_, h2, h3, h5⟩
    rw [canF_get, h4]
  · have hm := List.mem_of_getElem? hib
    have := (hf b hm).1
    show (if b < nx0 then π b else s.nx + new.idxOf b) = s.nx + i
    rw [if_neg (by omega)]
    have hlt : i < new.length := (List.getElem?_eq_some_iff.1 hib).1
    have hbe : new[i] = b := (List.getElem?_eq_some_iff.1 hib).2
    rw [← hbe, List.Nodup.idxOf_getElem hn i hlt]
  · unfold pN at hp
    rcases Bool.or_eq_true _ _ ▸ hp with h1 | h1
    · exact .inl (show b < nx0 by simpa using h1)
    · exact .inr (by simpa using h1)
  · obtain ⟨x, hx, rfl⟩ := List.mem_map.1 hbm
    obtain ⟨_, _, _, _, _, h6, h7⟩ := eachX_mem hb x hx
    exact ⟨h6, h7⟩
/-- As Sound.putR; rows in more than one block. -/
theorem Sound.putFG {P : Program} {f : FuncId} {args : List AV} {e : AExit} {v : AV} {s1 : AS} {bs0 : List (Nat × AObj)} {Fz : List (Nat × List AV)} {n0 nx0 : Nat} (h : Sound P (.call f args (canF bs0 Fz n0 nx0)) ⟨e, [v], s1⟩) (π : Nat → Nat) (hg : ∀ g, g < P.globals.size → g < nx0 ∧ π g = g) (new : List Nat) (s : AS)
    (hF : ∀ x ∈ Fz, x.1 < nx0 ∧ x.1 ∉ bs0.map (·.1) ∧ namess (fun _ => false) x.2 = true ∧ (∃ ro, s.get (π x.1) = some (.cells ro x.2)) ∧ ∀ b ∈ bs0.map (·.1), π b ≠ π x.1)
    (hb : eachX (fun b o => b < nx0 ∧ o.rw = true ∧ o.names (fun c => Nat.blt c nx0) = true ∧ getB bs0 b = some o ∧ s.get (π b) = some (o.ren π) ∧ ((objAt s1 b).rw = true ∨ objAt s1 b = .dead) ∧ (objAt s1 b).names (pN nx0 new) = true) bs0)
    (hi : ∀ b ∈ bs0.map (·.1), ∀ c ∈ bs0.map (·.1), π b = π c → b = c) (hd : (bs0.map (·.1)).Nodup) (hn : new.Nodup) (hf : ∀ b ∈ new, nx0 ≤ b ∧ (objAt s1 b).rw = true ∧ (objAt s1 b).names (pN nx0 new) = true)
    (ha : namess (fun b => Nat.blt b nx0) args = true) (hv : v.names (pN nx0 new) = true) :
    Sound P (.call f (rens π args) s) ⟨.ret, [v.ren (pR nx0 new π s.nx)], pushL (setL s ((bs0.map (·.1)).map fun b => (π b, (objAt s1 b).ren (pR nx0 new π s.nx)))) (new.map fun b => (objAt s1 b).ren (pR nx0 new π s.nx))⟩ :=
  Sound.frame2 h (placed_putG π hg new s hF hb hi hd hn hf) ha hv .ret
end Go.Mini

namespace Go.Mini
open Go Go.RowKit

/-! ### a small heap lies in a state, under other names: what code makes of it there; nothing is said of what else the state holds -/
section
variable {P : Program}
structure Kan (P : Program) (bs : List (Nat × AObj)) (Fz : List (Nat × List AV)) (nx0 : Nat) : Prop where
  glob : P.globals.size ≤ nx0
  ok : eachX (fun b o => b < nx0 ∧ o.rw = true ∧ o.names (fun c => Nat.blt c nx0) = true ∧ getB bs b = some o) bs
  nodup : (bs.map (·.1)).Nodup
  fz : ∀ x ∈ Fz, x.1 < nx0 ∧ x.1 ∉ bs.map (·.1) ∧ namess (fun _ => false) x.2 = true
structure At (P : Program) (bs : List (Nat × AObj)) (Fz : List (Nat × List AV)) (s : AS) (π : Nat → Nat) : Prop where
  glob : ∀ g, g < P.globals.size → π g = g
  fz : ∀ x ∈ Fz, ∃ ro, s.get (π x.1) = some (.cells ro x.2)
  out : ∀ b ∈ bs.map (·.1), ∀ x ∈ Fz, π b ≠ π x.1
  inj : ∀ b ∈ bs.map (·.1), ∀ c ∈ bs.map (·.1), π b = π c → b = c
  at_ : eachX (fun b o => s.get (π b) = some (o.ren π)) bs
  keys : ∀ k ∈ s.h.bs.map (·.1), k < s.nx
theorem eachX_imp {f g : Nat → AObj → Prop} : ∀ {bs : List (Nat × AObj)}, eachX f bs → (∀ x ∈ bs, f x.1 x.2 → g x.1 x.2) → eachX g bs
  | [], _, _ => trivial
  | _ :: _, h, hi => ⟨hi _ (by simp) h.1, eachX_imp h.2 fun x hx => hi x (by simp [hx])⟩
theorem At.lt {bs : List (Nat × AObj)} {Fz : List (Nat × List AV)} {s : AS} {π : Nat → Nat} (A : At P bs Fz s π) {b : Nat} (hb : b ∈ bs.map (·.1)) : π b < s.nx := by
  obtain ⟨x, hx, rfl⟩ := List.mem_map.1 hb
  exact A.keys _ (getB_mem (eachX_mem A.at_ x hx))
section
variable {bs bs' : List (Nat × AObj)} {Fz : List (Nat × List AV)} {s s1 : AS} {π κ : Nat → Nat} {n0 nx0 : Nat} {new : List Nat} (A : At P bs Fz s π) (K : Kan P bs Fz nx0) (hn : new.Nodup) (hnew : ∀ b ∈ new, nx0 ≤ b ∧ (objAt s1 b).rw = true ∧ (objAt s1 b).names (pN nx0 new) = true)
  (hκg : ∀ g, g < P.globals.size → κ g = g) (hκz : ∀ x ∈ Fz, κ x.1 = x.1) (hκ : eachX (fun b o => (κ b ∈ bs.map (·.1) ∨ κ b ∈ new) ∧ s1.get (κ b) = some (o.ren κ)) bs') (hκi : ∀ b ∈ bs'.map (·.1), ∀ c ∈ bs'.map (·.1), κ b = κ c → b = c)
include A K hn hnew hκg hκz hκ hκi
omit hn in
theorem At.after : At P bs' Fz (pushL (setL s ((bs.map (·.1)).map fun b => (π b, (objAt s1 b).ren (pR nx0 new π s.nx)))) (new.map fun b => (objAt s1 b).ren (pR nx0 new π s.nx))) (fun b => pR nx0 new π s.nx (κ b)) := by
  have low : ∀ b, b < nx0 → pR nx0 new π s.nx b = π b := fun b hb => if_pos hb
  have klt : ∀ b ∈ bs.map (·.1), b < nx0 := fun b hb => by
    obtain ⟨x, hx, rfl⟩ := List.mem_map.1 hb
    exact (eachX_mem K.ok x hx).1
  have high : ∀ b ∈ new, pR nx0 new π s.nx b = s.nx + new.idxOf b := fun b hb => if_neg (by have := (hnew b hb).1; omega)
  have fzlt : ∀ x ∈ Fz, π x.1 < s.nx := fun x hx => by
    obtain ⟨ro, h⟩ := A.fz x hx
    exact A.keys _ (getB_mem h)
  have nd : (((bs.map (·.1)).map fun b => (π b, (objAt s1 b).ren (pR nx0 new π s.nx))).map (·.1)).Nodup := by
    rw [List.map_map]
    exact nodup_map_on A.inj K.nodup
  have getOld : ∀ b ∈ bs.map (·.1), (pushL (setL s ((bs.map (·.1)).map fun b => (π b, (objAt s1 b).ren (pR nx0 new π s.nx)))) (new.map fun b => (objAt s1 b).ren (pR nx0 new π s.nx))).get (π b) = some ((objAt s1 b).ren (pR nx0 new π s.nx)) := fun b hb => by
    rw [pushL_old (by rw [setL_nx]; exact A.lt hb)]
    obtain ⟨x, hx, rfl⟩ := List.mem_map.1 hb
    exact setL_at nd (List.mem_map.2 ⟨x.1, hb, rfl⟩) (eachX_mem A.at_ x hx)
  have getNew : ∀ b ∈ new, (pushL (setL s ((bs.map (·.1)).map fun b => (π b, (objAt s1 b).ren (pR nx0 new π s.nx)))) (new.map fun b => (objAt s1 b).ren (pR nx0 new π s.nx))).get (s.nx + new.idxOf b) = some ((objAt s1 b).ren (pR nx0 new π s.nx)) := fun b hb => by
    have hi : new[new.idxOf b]? = some b := by rw [List.getElem?_eq_getElem (List.idxOf_lt_length_of_mem hb), List.getElem_idxOf]
    have := pushL_new (l := new.map fun b => (objAt s1 b).ren (pR nx0 new π s.nx)) (s := setL s ((bs.map (·.1)).map fun b => (π b, (objAt s1 b).ren (pR nx0 new π s.nx)))) (i := new.idxOf b) (o := (objAt s1 b).ren (pR nx0 new π s.nx)) (by rw [List.getElem?_map, hi]; rfl)
    rw [setL_nx] at this
    exact this
  refine ⟨fun g hg => ?_, fun x hx => ?_, fun b hb x hx => ?_, fun b hb c hc h => hκi b hb c hc ?_, eachX_imp hκ fun x hx hh => ?_, fun k hk => ?_⟩
  · show pR nx0 new π s.nx (κ g) = g
    rw [hκg g hg, low g (by have := K.glob; omega), A.glob g hg]
  · obtain ⟨ro, h⟩ := A.fz x hx
    refine ⟨ro, ?_⟩
    show AS.get _ (pR nx0 new π s.nx (κ x.1)) = _
    rw [hκz x hx, low _ (K.fz x hx).1, pushL_old (by rw [setL_nx]; exact fzlt x hx), setL_other (fun hm => ?_)]
    · exact h
    · rw [List.map_map] at hm
      obtain ⟨c, hc, he⟩ := List.mem_map.1 hm
      exact A.out c hc x hx he
  · show pR nx0 new π s.nx (κ b) ≠ pR nx0 new π s.nx (κ x.1)
    rw [hκz x hx, low _ (K.fz x hx).1]
    obtain ⟨y, hy, rfl⟩ := List.mem_map.1 hb
    rcases (eachX_mem hκ y hy).1 with h | h
    · rw [low _ (klt _ h)]
      exact A.out _ h x hx
    · rw [high _ h]
      have := fzlt x hx
      omega
  · obtain ⟨y, hy, rfl⟩ := List.mem_map.1 hb
    obtain ⟨z, hz, rfl⟩ := List.mem_map.1 hc
    have h : pR nx0 new π s.nx (κ y.1) = pR nx0 new π s.nx (κ z.1) := h
    rcases (eachX_mem hκ y hy).1 with h1 | h1 <;> rcases (eachX_mem hκ z hz).1 with h2 | h2
    · rw [low _ (klt _ h1), low _ (klt _ h2)] at h
      exact A.inj _ h1 _ h2 h
    · rw [low _ (klt _ h1), high _ h2] at h
      have := A.lt h1
      omega
    · rw [high _ h1, low _ (klt _ h2)] at h
      have := A.lt h2
      omega
    · rw [high _ h1, high _ h2] at h
      have e : new.idxOf (κ y.1) = new.idxOf (κ z.1) := by omega
      have g1 := List.getElem_idxOf (List.idxOf_lt_length_of_mem h1)
      have g2 := List.getElem_idxOf (List.idxOf_lt_length_of_mem h2)
      rw [← g1, ← g2]
      simp only [e]
  · obtain ⟨h1, h2⟩ := hh
    have eo : objAt s1 (κ x.1) = x.2.ren κ := by simp [objAt, h2]
    show AS.get _ (pR nx0 new π s.nx (κ x.1)) = some (x.2.ren fun b => pR nx0 new π s.nx (κ b))
    rw [← oren_comp, ← eo]
    rcases h1 with h | h
    · rw [low _ (klt _ h)]
      exact getOld _ h
    · rw [high _ h]
      exact getNew _ h
  · have hsh : Shape s (pushL (setL s ((bs.map (·.1)).map fun b => (π b, (objAt s1 b).ren (pR nx0 new π s.nx)))) (new.map fun b => (objAt s1 b).ren (pR nx0 new π s.nx))) := (setL_shape _ _).trans (pushL_shape _ _)
    obtain ⟨ks, h1, _, h3⟩ := hsh.keys
    have hk : k ∈ keysOf (pushL (setL s ((bs.map (·.1)).map fun b => (π b, (objAt s1 b).ren (pR nx0 new π s.nx)))) (new.map fun b => (objAt s1 b).ren (pR nx0 new π s.nx))) := hk
    rw [h1] at hk
    rcases List.mem_append.1 hk with hk | hk
    · exact (h3 k hk).2
    · have : k < s.nx := A.keys k hk
      rw [pushL_nx, setL_nx]
      omega
end
end
end Go.Mini

namespace Go.Mini
open Go Go.RowKit
section
variable {P : Program} {bs bs' : List (Nat × AObj)} {Fz : List (Nat × List AV)} {s s1 : AS} {π κ : Nat → Nat} {n0 nx0 : Nat} {new : List Nat} (A : At P bs Fz s π) (K : Kan P bs Fz nx0) (hn : new.Nodup) (hnew : ∀ b ∈ new, nx0 ≤ b ∧ (objAt s1 b).rw = true ∧ (objAt s1 b).names (pN nx0 new) = true)
  (hκg : ∀ g, g < P.globals.size → κ g = g) (hκz : ∀ x ∈ Fz, κ x.1 = x.1) (hκ : eachX (fun b o => (κ b ∈ bs.map (·.1) ∨ κ b ∈ new) ∧ s1.get (κ b) = some (o.ren κ)) bs') (hκi : ∀ b ∈ bs'.map (·.1), ∀ c ∈ bs'.map (·.1), κ b = κ c → b = c)
include A K hn hnew hκg hκz hκ hκi
end
end Go.Mini

