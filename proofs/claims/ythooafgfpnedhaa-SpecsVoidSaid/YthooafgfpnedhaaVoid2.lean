/- A map of numbers, read by the kit. Conditions: those that each theorem names, and no others. -/
import Derived.Test.YthooafgfpnedhaaVoid1
import Derived.Test.YthooafgfpnedhaaMini3
namespace Go.Proofs.Ythooafgfpnedhaa.specsVoid
open Go Go.Mini Go.Proofs Go.RowKit Go.Maps Go.Sort Go.Shelf
/-! ### a map of numbers, read by the kit; a row made by a call, told to the interpreter -/
def uI (n : Int) : AV := .int .u64 n
/-- A map's entries may lie so. -/
structure MapOk (M : List (Int × Int)) (bn : List Nat) (ck : Nat) : Prop where
  keys : (M.map (·.1)).Nodup
  born : bn.Nodup
  lt : ∀ b ∈ bn, b < ck
  wf : ∀ x ∈ M, (Lit.int .u64 x.1).wf = true ∧ (Lit.int .u64 x.2).wf = true
  len : M.length ≤ 1000000
theorem erel_mapE {ρ : Mini.Ren} : ∀ {M : List (Int × Int)} {l : List MapEntry}, ERel ρ (mapE .u64 .u64 M) l → l.map (·.key) = M.map (fun x => encU x.1) ∧ l.map (·.val) = M.map (fun x => encU x.2)
  | [], l, h => by
    have h : l = [] := h
    subst h
    exact ⟨rfl, rfl⟩
  | x :: M, l, h => by
    obtain ⟨e, r, rfl, h1, h2, h3⟩ := h
    obtain ⟨i1, i2⟩ := erel_mapE h3
    rw [vrel_int] at h1 h2
    exact ⟨by simp only [List.map_cons, i1, h1], by simp only [List.map_cons, i2, h2]⟩
theorem mem_of_maps {l : List MapEntry} {M : List (Int × Int)} (h1 : l.map (·.key) = M.map (fun x => encU x.1)) (h2 : l.map (·.val) = M.map (fun x => encU x.2)) {e : MapEntry} (he : e ∈ l) : ∃ x ∈ M, e.key = encU x.1 ∧ e.val = encU x.2 := by
  obtain ⟨i, hi⟩ := List.getElem?_of_mem he
  have k1 : (l.map (·.key))[i]? = some e.key := by rw [List.getElem?_map, hi]; rfl
  have k2 : (l.map (·.val))[i]? = some e.val := by rw [List.getElem?_map, hi]; rfl
  rw [h1, List.getElem?_map] at k1
  rw [h2, List.getElem?_map] at k2
  cases hx : M[i]? with
  | none => rw [hx] at k1; cases k1
  | some x =>
    rw [hx] at k1 k2
    exact ⟨x, List.mem_of_getElem? hx, (Option.some.inj k1).symm, (Option.some.inj k2).symm⟩
theorem nodup_enc : ∀ {l : List Int}, l.Nodup → (l.map encU).Nodup
  | [], _ => List.nodup_nil
  | x :: l, h => by
    obtain ⟨h1, h2⟩ := List.nodup_cons.1 h
    refine List.nodup_cons.2 ⟨fun hm => ?_, nodup_enc h2⟩
    obtain ⟨y, hy, e⟩ := List.mem_map.1 hm
    exact h1 (encU_inj e ▸ hy)
theorem owns_of {w : World} {ρ : Mini.Ren} {M : List (Int × Int)} {bn : List Nat} {ck c : Nat} {ents : Array MapEntry} (hk : MapOk M bn ck) (hb : w.heap[c]? = some (.map ents ck)) (he : ERel ρ (mapE .u64 .u64 M) ents.toList) (hbn : ents.toList.map (·.born) = bn) :
    ∃ D0 : DataW Unit, w.ownsMap Try.prog 22 (plainElem Try.prog 22) c M.length D0 ∧ Maps.size D0 = M.length ∧ ∀ x : Int, has D0 (.int .u64 x) = true ↔ x ∈ M.map (·.1) := by
  obtain ⟨e1, e2⟩ := erel_mapE he
  have hlen : ents.toList.length = M.length := by have := congrArg List.length e1; simpa using this
  have hrd : ∀ y ∈ ents.toList, ∃ x ∈ M, WideElems.rd (H := Unit) Try.prog 22 (plainElem Try.prog 22) y = some (.int .u64 x.1, .lit (.int .u64 x.2)) := by
    intro y hy
    obtain ⟨x, hx, k1, k2⟩ := mem_of_maps e1 e2 hy
    refine ⟨x, hx, ?_⟩
    have hw := hk.wf x hx
    unfold WideElems.rd
    rw [k1, k2]
    have q : keyOf Try.prog 22 (encU x.1) = some (.int .u64 x.1) := by simp [keyOf, mapKey, Try.underlying22, hw.1]
    have p : plainElem (H := Unit) Try.prog 22 (encU x.2) = some (.lit (.int .u64 x.2), []) := plainElem_int Try.underlying22 hw.2
    rw [q, p]
    rfl
  refine ⟨.map ((ents.toList.map (WideElems.rg Try.prog 22 (plainElem Try.prog 22))).foldr DataW.insert []), ⟨ents, ck, hb, ⟨?_, ⟨?_, ?_, ?_⟩, fun y hy => ?_⟩, ?_, rfl⟩, ?_, fun x => ?_⟩
  · have := hk.len
    rw [← Array.length_toList, hlen]
    have : M.length ≤ 1000000 := hk.len
    unfold maxLen
    omega
  · intro y hy
    exact hk.lt _ (hbn ▸ List.mem_map.2 ⟨y, hy, rfl⟩)
  · rw [hbn]; exact hk.born
  · rw [e1]
    have := hk.keys
    rw [show (M.map fun x => encU x.1) = (M.map (·.1)).map encU by rw [List.map_map]; rfl]
    exact nodup_enc this
  · obtain ⟨x, _, h⟩ := hrd y hy
    exact ⟨_, h⟩
  · rw [← Array.length_toList, hlen]; exact Nat.le_refl _
  · simp [Maps.size, length_sorted, hlen]
  · show List.any _ _ = true ↔ _
    rw [List.any_eq_true]
    constructor
    · rintro ⟨p, hp, hs⟩
      obtain ⟨y, hy, rfl⟩ := List.mem_map.1 (mem_sorted.1 hp)
      obtain ⟨z, hz, h⟩ := hrd y hy
      rw [WideElems.rg_of h] at hs
      have hs := WideAt.sameKey_eq hs
      have hs : Lit.int .u64 z.1 = Lit.int .u64 x := hs
      exact List.mem_map.2 ⟨z, hz, (Lit.int.inj hs).2⟩
    · intro hx
      obtain ⟨z, hz, rfl⟩ := List.mem_map.1 hx
      have hm : encU z.1 ∈ ents.toList.map (·.key) := by rw [e1]; exact List.mem_map.2 ⟨z, hz, rfl⟩
      obtain ⟨y, hy, hyk⟩ := List.mem_map.1 hm
      obtain ⟨z', hz', h⟩ := hrd y hy
      refine ⟨_, mem_sorted.2 (List.mem_map.2 ⟨y, hy, rfl⟩), ?_⟩
      have hkk := WideElems.rd_key h
      have hk2 : keyOf Try.prog 22 y.key = some (.int .u64 z.1) := by rw [hyk]; simp [keyOf, mapKey, Try.underlying22, (hk.wf z hz).1]
      rw [hk2] at hkk
      rw [WideElems.rg_of h]
      have hkk := Option.some.inj hkk
      show Lit.sameKey (.int .u64 z'.1) (.int .u64 z.1) = true
      have hkk : z.1 = z'.1 := (Lit.int.inj hkk).2
      rw [hkk]
      simp [Lit.sameKey]
end Go.Proofs.Ythooafgfpnedhaa.specsVoid
