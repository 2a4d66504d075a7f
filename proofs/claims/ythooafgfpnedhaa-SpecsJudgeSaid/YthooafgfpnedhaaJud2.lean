/- A call that is so on a small heap is so wherever its blocks lie; maps of numbers. Conditions: those that each theorem names, and no others. -/
import Derived.Test.YthooafgfpnedhaaMini3
import Derived.Test.YthooafgfpnedhaaJud1
namespace Go.Proofs.Ythooafgfpnedhaa.specsJudge
open Go Go.Mini
def uc (Q : List Int) : List AV := Q.map (AV.int .u64)
theorem names_uc (p : Nat → Bool) : ∀ Q, namess p (uc Q) = true
  | [] => rfl
  | x :: l => by show (true && namess p (uc l)) = true; rw [names_uc p l]; rfl
theorem rens_uc (π : Nat → Nat) : ∀ Q, rens π (uc Q) = uc Q
  | [] => rfl
  | x :: l => by show _ :: rens π (uc l) = _; rw [rens_uc π l]; rfl
theorem names_mapE (p : Nat → Bool) : ∀ es, namesE p (mapE .u64 .u64 es) = true
  | [] => rfl
  | x :: l => by show (true && true && namesE p (mapE .u64 .u64 l)) = true; rw [names_mapE p l]; rfl
theorem ren_mapE (π : Nat → Nat) : ∀ es, renE π (mapE .u64 .u64 es) = mapE .u64 .u64 es
  | [] => rfl
  | x :: l => by show _ :: renE π (mapE .u64 .u64 l) = _; rw [ren_mapE π l]; rfl
def Mp (t : AV) : Prop := t = .nilMap ∨ ∃ b, t = .map b
def Ql (q : AV) : Prop := q = .nilSlice ∨ ∃ b o n, q = .osl b o n 1
theorem Mp.small {t : AV} (h : Mp t) (i : Nat) (hi : i < 8) : ∃ (t0 : AV) (c : Nat), t0.names (fun b => Nat.blt b 8) = true ∧ ∀ π : Nat → Nat, π i = c → t0.ren π = t := by
  rcases h with rfl | ⟨b, rfl⟩
  · exact ⟨.nilMap, 0, rfl, fun _ _ => rfl⟩
  · exact ⟨.map i, b, by simpa [AV.names] using hi, fun π h => by simp [AV.ren, h]⟩
theorem Ql.small {t : AV} (h : Ql t) (i : Nat) (hi : i < 8) : ∃ (t0 : AV) (c : Nat), t0.names (fun b => Nat.blt b 8) = true ∧ ∀ π : Nat → Nat, π i = c → t0.ren π = t := by
  rcases h with rfl | ⟨b, o, n, rfl⟩
  · exact ⟨.nilSlice, 0, rfl, fun _ _ => rfl⟩
  · exact ⟨.osl i o n 1, b, by simpa [AV.names] using hi, fun π h => by simp [AV.ren, h]⟩
theorem noG : Try.prog.globals.size = 0 := by kernel_rfl

theorem put2 {op k v : Int} {r : AV} {c c' : List AV} {o o' : AObj} {s1 : AS} {e : AExit} (h : Sound Try.prog (.call 9 [.ptr 4 0, .int .u8 op, .int .u64 k, .int .u64 v] ⟨⟨[(4, .cells false c), (5, o)], 2, none, []⟩, 8⟩) ⟨e, [r], s1⟩) (nl : List (Nat × AObj))
    (h4 : s1.get 4 = some (.cells false c')) (h5 : s1.get 5 = some o') (nc : namess (fun b => Nat.blt b 8) c = true) (no : o.names (fun b => Nat.blt b 8) = true) (ro : o.rw = true) (nc' : namess (pN 8 (nl.map (·.1))) c' = true) (no' : o'.names (pN 8 (nl.map (·.1))) = true) (ro' : o'.rw = true ∨ o' = .dead)
    (hnl : eachX (fun b o => 8 ≤ b ∧ s1.get b = some o ∧ o.rw = true ∧ o.names (pN 8 (nl.map (·.1))) = true) nl) (hnd : (nl.map (·.1)).Nodup) (hr : r.names (fun _ => false) = true) (π : Nat → Nat) (hπ : π 4 ≠ π 5) {s : AS}
    (hb : s.get (π 4) = some (.cells false (rens π c))) (hm : s.get (π 5) = some (o.ren π)) :
    Sound Try.prog (.call 9 [.ptr (π 4) 0, .int .u8 op, .int .u64 k, .int .u64 v] s) ⟨.ret, [r], pushL ((s.set (π 4) (.cells false (rens (pR 8 (nl.map (·.1)) π s.nx) c'))).set (π 5) (o'.ren (pR 8 (nl.map (·.1)) π s.nx))) (nl.map fun x => x.2.ren (pR 8 (nl.map (·.1)) π s.nx))⟩ := by
  have e4 : objAt s1 4 = .cells false c' := by simp [objAt, h4]
  have e5 : objAt s1 5 = o' := by simp [objAt, h5]
  have := Sound.put (bs0 := [(4, .cells false c), (5, o)]) h noG π (nl.map (·.1)) s
    ⟨⟨show 4 < 8 by decide, rfl, nc, rfl, hb, by rw [e4]; exact .inl rfl, by rw [e4]; exact nc'⟩, ⟨show 5 < 8 by decide, ro, no, rfl, hm, by rw [e5]; exact ro', by rw [e5]; exact no'⟩, trivial⟩
    (fun b hb c hc he => by
      simp only [List.map_cons, List.map_nil, List.mem_cons, List.not_mem_nil, or_false] at hb hc
      rcases hb with rfl | rfl <;> rcases hc with rfl | rfl
      · rfl
      · exact absurd he hπ
      · exact absurd he.symm hπ
      · rfl) (show [4, 5].Nodup by decide) hnd
    (fun b hb => by
      obtain ⟨x, hx, rfl⟩ := List.mem_map.1 hb
      obtain ⟨k1, k2, k3, k4⟩ := eachX_mem hnl x hx
      have e : objAt s1 x.1 = x.2 := by simp [objAt, k2]
      rw [e]
      exact ⟨k1, k3, k4⟩) rfl (names_sub (fun _ h => by cases h) hr)
  have hr' : r.ren (pR 8 (nl.map (·.1)) π s.nx) = r := by rw [ren_congr (p := fun _ => false) (π' := fun b => b) (fun _ h => by cases h) hr, ren_id]
  rw [hr'] at this
  have hobj : ((nl.map (·.1)).map fun b => (objAt s1 b).ren (pR 8 (nl.map (·.1)) π s.nx)) = nl.map fun x => x.2.ren (pR 8 (nl.map (·.1)) π s.nx) := by
    rw [List.map_map]
    refine List.map_congr_left fun x hx => ?_
    obtain ⟨k1, k2, k3, k4⟩ := eachX_mem hnl x hx
    show (objAt s1 x.1).ren _ = _
    rw [show objAt s1 x.1 = x.2 from by simp [objAt, k2]]
  rw [hobj] at this
  simp only [List.map_cons, List.map_nil, setL, e4, e5] at this
  exact this
theorem put1 {op k v : Int} {r : AV} {c c' : List AV} {s1 : AS} {e : AExit} (h : Sound Try.prog (.call 9 [.ptr 4 0, .int .u8 op, .int .u64 k, .int .u64 v] ⟨⟨[(4, .cells false c)], 1, none, []⟩, 8⟩) ⟨e, [r], s1⟩) (nl : List (Nat × AObj))
    (h4 : s1.get 4 = some (.cells false c')) (nc : namess (fun b => Nat.blt b 8) c = true) (nc' : namess (pN 8 (nl.map (·.1))) c' = true)
    (hnl : eachX (fun b o => 8 ≤ b ∧ s1.get b = some o ∧ o.rw = true ∧ o.names (pN 8 (nl.map (·.1))) = true) nl) (hnd : (nl.map (·.1)).Nodup) (hr : r.names (fun _ => false) = true) (π : Nat → Nat) {s : AS}
    (hb : s.get (π 4) = some (.cells false (rens π c))) :
    Sound Try.prog (.call 9 [.ptr (π 4) 0, .int .u8 op, .int .u64 k, .int .u64 v] s) ⟨.ret, [r], pushL (s.set (π 4) (.cells false (rens (pR 8 (nl.map (·.1)) π s.nx) c'))) (nl.map fun x => x.2.ren (pR 8 (nl.map (·.1)) π s.nx))⟩ := by
  have e4 : objAt s1 4 = .cells false c' := by simp [objAt, h4]
  have := Sound.put (bs0 := [(4, .cells false c)]) h noG π (nl.map (·.1)) s
    ⟨⟨show 4 < 8 by decide, rfl, nc, rfl, hb, by rw [e4]; exact .inl rfl, by rw [e4]; exact nc'⟩, trivial⟩
    (fun b hb c hc he => by
      simp only [List.map_cons, List.map_nil, List.mem_cons, List.not_mem_nil, or_false] at hb hc
      rw [hb, hc]) (show [4].Nodup by decide) hnd
    (fun b hb => by
      obtain ⟨x, hx, rfl⟩ := List.mem_map.1 hb
      obtain ⟨k1, k2, k3, k4⟩ := eachX_mem hnl x hx
      have e : objAt s1 x.1 = x.2 := by simp [objAt, k2]
      rw [e]
      exact ⟨k1, k3, k4⟩) rfl (names_sub (fun _ h => by cases h) hr)
  have hr' : r.ren (pR 8 (nl.map (·.1)) π s.nx) = r := by rw [ren_congr (p := fun _ => false) (π' := fun b => b) (fun _ h => by cases h) hr, ren_id]
  rw [hr'] at this
  have hobj : ((nl.map (·.1)).map fun b => (objAt s1 b).ren (pR 8 (nl.map (·.1)) π s.nx)) = nl.map fun x => x.2.ren (pR 8 (nl.map (·.1)) π s.nx) := by
    rw [List.map_map]
    refine List.map_congr_left fun x hx => ?_
    obtain ⟨k1, k2, k3, k4⟩ := eachX_mem hnl x hx
    show (objAt s1 x.1).ren _ = _
    rw [show objAt s1 x.1 = x.2 from by simp [objAt, k2]]
  rw [hobj] at this
  simp only [List.map_cons, List.map_nil, setL, e4] at this
  exact this

/-! ### maps of numbers: what is asked -/
def posM : List (Int × Int) → Int → Nat
  | [], _ => 0
  | x :: t, n => if n = x.1 then 0 else posM t n + 1
theorem find_in {kt : TypeId} (hk : Try.prog.underlying kt = some (.int .u64)) {s : AS} {n x : Int} : ∀ (es : List (Int × Int)) (i : Nat), getM es n = some x →
    findA Try.prog s kt (.int .u64 n) (mapE .u64 .u64 es) i = some (some (i + posM es n, .int .u64 n, .int .u64 x)) ∧ eraseAt (mapE .u64 .u64 es) (posM es n) = mapE .u64 .u64 (delM es n)
  | [], _, h => by cases h
  | y :: l, i, h => by
    have he : eqA Try.prog s 8 kt (.int .u64 n) (.int .u64 y.1) = some (n == y.1) := by simp only [eqA, hk, eqInt, if_true]
    by_cases hn : n = y.1
    · have hb : (n == y.1) = true := by simpa using hn
      rw [hb] at he
      simp only [getM, if_pos hn, Option.some.injEq] at h
      subst h
      constructor
      · rw [show mapE .u64 .u64 (y :: l) = (.int .u64 y.1, .int .u64 y.2) :: mapE .u64 .u64 l from rfl]
        simp only [findA, he, posM, if_pos hn, Nat.add_zero]
        rw [← hn]
      · simp only [posM, delM, if_pos hn]; rfl
    · have hb : (n == y.1) = false := by simpa using hn
      rw [hb] at he
      simp only [getM, if_neg hn] at h
      obtain ⟨h1, h2⟩ := find_in hk (s := s) l (i + 1) h
      constructor
      · rw [show mapE .u64 .u64 (y :: l) = (.int .u64 y.1, .int .u64 y.2) :: mapE .u64 .u64 l from rfl]
        simp only [findA, he, posM, if_neg hn, h1]
        rw [show i + 1 + posM l n = i + (posM l n + 1) from by omega]
      · simp only [posM, delM, if_neg hn]
        show _ :: eraseAt (mapE .u64 .u64 l) _ = _
        rw [h2]
        rfl
theorem find_out {kt : TypeId} (hk : Try.prog.underlying kt = some (.int .u64)) {s : AS} {n : Int} (es : List (Int × Int)) (i : Nat) (h : getM es n = none) : findA Try.prog s kt (.int .u64 n) (mapE .u64 .u64 es) i = some none := by
  rcases find_mapE (vk := .u64) hk (s := s) (n := n) es i with ⟨_, h2⟩ | ⟨x, p, h1, _⟩
  · exact h2
  · rw [h] at h1; cases h1
theorem t34 : Try.prog.underlying 34 = some (.map 22 22) := by kernel_rfl
theorem t22 : Try.prog.underlying 22 = some (.int .u64) := by kernel_rfl
theorem z22 : zeroA Try.prog 22 = some (.int .u64 0) := by kernel_rfl
section
variable {s : AS} {b ck : Nat} {bn : List Nat} {es : List (Int × Int)} {n : Int}
theorem lk_in {x : Int} (hs : s.get b = some (.map (mapE .u64 .u64 es) bn ck)) (h : getM es n = some x) : lookupA Try.prog s 34 (.map b) (.int .u64 n) true = some (.tuple [.int .u64 x, .bool true]) := by
  rw [lk_mapE (vk := .u64) t34 t22 z22 hs true, h]; rfl
theorem lk_out (hs : s.get b = some (.map (mapE .u64 .u64 es) bn ck)) (h : getM es n = none) : lookupA Try.prog s 34 (.map b) (.int .u64 n) true = some (.tuple [.int .u64 0, .bool false]) := by
  rw [lk_mapE (vk := .u64) t34 t22 z22 hs true, h]; rfl
theorem upd_out (v : Int) (hs : s.get b = some (.map (mapE .u64 .u64 es) bn ck)) (h : getM es n = none) : updateA Try.prog s 34 (.map b) (.int .u64 n) (.int .u64 v) = some (s.set b (.map (mapE .u64 .u64 (putM es n v)) (bn ++ [ck]) (ck + 1))) := by
  simp only [updateA, t34, key_num t22, if_true, mapAt, hs, find_out t22 es 0 h, put_new n v es h, AV.young, noteEsc, Bool.false_eq_true, if_false]
theorem del_in {x : Int} (hs : s.get b = some (.map (mapE .u64 .u64 es) bn ck)) (h : getM es n = some x) : deleteA Try.prog s 34 (.map b) (.int .u64 n) = some (s.set b (.map (mapE .u64 .u64 (delM es n)) (bn.eraseIdx (posM es n)) ck)) := by
  obtain ⟨h1, h2⟩ := find_in (s := s) t22 es 0 h
  simp only [deleteA, t34, key_num t22, if_true, mapAt, hs, h1, Nat.zero_add, h2]
theorem del_out (hs : s.get b = some (.map (mapE .u64 .u64 es) bn ck)) (h : getM es n = none) : deleteA Try.prog s 34 (.map b) (.int .u64 n) = some s := by
  simp only [deleteA, t34, key_num t22, if_true, mapAt, hs, find_out t22 es 0 h]
end
end Go.Proofs.Ythooafgfpnedhaa.specsJudge
