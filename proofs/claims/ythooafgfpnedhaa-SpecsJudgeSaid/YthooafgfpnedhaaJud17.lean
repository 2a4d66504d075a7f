/- One form for all that specs.State.Do answers and makes. Conditions: those that each theorem names, and no others. -/
import Derived.Test.YthooafgfpnedhaaJud16
namespace Go.Proofs.Ythooafgfpnedhaa.specsJudge
open Go Go.Mini
/-! ### the state, and what an op makes of it: one form for all ways -/
theorem freeMap (es : List (Int × Int)) (bn : List Nat) (ck : Nat) : Free (.map (mapE .u64 .u64 es) bn ck) := ⟨rfl, names_mapE _ _⟩
theorem freeUc (Q : List Int) : Free (.cells false (uc Q)) := ⟨rfl, names_uc _ _⟩
def MO (S : Option (List (Int × Int))) (m : AV) (b : Nat) (o : AObj) : Prop := match S with
  | none => m = .nilMap ∧ Free o
  | some es => m = .map b ∧ ∃ bn ck, o = .map (mapE .u64 .u64 es) bn ck
def QO (Q : Option (List Int × Nat)) (q : AV) (b : Nat) (o : AObj) : Prop := match Q with
  | none => q = .nilSlice ∧ Free o
  | some (R, k) => q = .osl b k (R.length - k) 1 ∧ o = .cells false (uc R) ∧ k ≤ R.length
theorem MO.mk {es : List (Int × Int)} {b : Nat} {bn : List Nat} {ck : Nat} : MO (some es) (.map b) b (.map (mapE .u64 .u64 es) bn ck) := And.intro rfl ⟨bn, ck, rfl⟩
theorem QO.mk {R : List Int} {b k n : Nat} (h : n = R.length - k) (hk : k ≤ R.length) : QO (some (R, k)) (.osl b k n 1) b (.cells false (uc R)) := And.intro (by rw [h]) (And.intro rfl hk)
section
variable {S : Option (List (Int × Int))} {Q : Option (List Int × Nat)} {m : AV} {b : Nat} {o : AObj}
theorem MO.fr (h : MO S m b o) : Free o := by
  cases S with
  | none => exact h.2
  | some es => obtain ⟨_, bn, ck, rfl⟩ := h; exact freeMap es bn ck
theorem MO.mp (h : MO S m b o) : Mp m := by
  cases S with
  | none => exact .inl h.1
  | some es => exact .inr ⟨b, h.1⟩
theorem MO.ren (h : MO S m b o) (π : Nat → Nat) (hp : π b = b) : m.ren π = m := by
  cases S with
  | none => rw [h.1]; rfl
  | some es => rw [h.1]; simp [AV.ren, hp]
theorem MO.nm (h : MO S m b o) {n : Nat} (hb : b < n) : m.names (fun c => Nat.blt c n) = true := by
  cases S with
  | none => rw [h.1]; rfl
  | some es => rw [h.1]; simpa [AV.names] using hb
theorem QO.fr (h : QO Q m b o) : Free o := by
  cases Q with
  | none => exact h.2
  | some R => obtain ⟨_, rfl, _⟩ := h; exact freeUc R.1
theorem QO.ql (h : QO Q m b o) : Ql m := by
  cases Q with
  | none => exact .inl h.1
  | some R => exact .inr ⟨b, _, _, h.1⟩
theorem QO.ren (h : QO Q m b o) (π : Nat → Nat) (hp : π b = b) : m.ren π = m := by
  cases Q with
  | none => rw [h.1]; rfl
  | some R => rw [h.1]; simp [AV.ren, hp]
theorem QO.nm (h : QO Q m b o) {n : Nat} (hb : b < n) : m.names (fun c => Nat.blt c n) = true := by
  cases Q with
  | none => rw [h.1]; rfl
  | some R => rw [h.1]; simpa [AV.names] using hb
end
structure S3 where
  mS : AV
  mT : AV
  q : AV
  oS : AObj
  oT : AObj
  oQ : AObj
structure Inv3 (S T : Option (List (Int × Int))) (Q : Option (List Int × Nat)) (st : S3) : Prop where
  s : MO S st.mS 1 st.oS
  t : MO T st.mT 2 st.oT
  q : QO Q st.q 3 st.oQ
def qv : Option (List Int × Nat) → List Int
  | none => []
  | some z => z.1.drop z.2
abbrev PS : Type := List (Int × Int) × List (Int × Int) × List Int
def rep (S T : Option (List (Int × Int))) (Q : Option (List Int × Nat)) : PS := (S.getD [], T.getD [], qv Q)
def putP (S : List (Int × Int)) (k v : Int) : (Nat × Int) × List (Int × Int) := match getM S k with
  | some _ => ((2, 0), S)
  | none => ((1, 0), putM S k v)
def dropP (S : List (Int × Int)) (k : Int) : (Nat × Int) × List (Int × Int) := match getM S k with
  | some _ => ((1, 0), delM S k)
  | none => ((2, 0), S)
/-- What an op answers, and what it makes of the state. -/
def stepP (ps : PS) (op : Nat) (k v : Int) : (Nat × Int) × PS := match op with
  | 0 => ((putP ps.1 k 0).1, (putP ps.1 k 0).2, ps.2.1, ps.2.2)
  | 1 => ((dropP ps.1 k).1, (dropP ps.1 k).2, ps.2.1, ps.2.2)
  | 2 => ((if (getM ps.1 k).isSome then 1 else 2, 0), ps)
  | 3 => ((1, 0), ps.1, ps.2.1, ps.2.2 ++ [v])
  | 4 => match ps.2.2 with
    | [] => ((2, 0), ps)
    | x :: Q => ((1, x), ps.1, ps.2.1, Q)
  | 5 => ((putP ps.2.1 k v).1, ps.1, (putP ps.2.1 k v).2, ps.2.2)
  | 6 => ((dropP ps.2.1 k).1, ps.1, (dropP ps.2.1 k).2, ps.2.2)
  | 7 => match getM ps.2.1 k with
    | some x => ((1, x), ps)
    | none => ((2, 0), ps)
  | _ => ((0, 0), ps)

def uni (s : AS) (c4 : List AV) (x1 x2 x3 : AObj) : AS := (((s.set 4 (.cells false c4)).set 1 x1).set 2 x2).set 3 x3
def ug (s : AS) (c4 : List AV) (x1 x2 x3 : AObj) (c : Nat) : Option AObj := if c = 3 then some x3 else if c = 2 then some x2 else if c = 1 then some x1 else if c = 4 then some (.cells false c4) else s.get c
section
variable {s : AS} {c0 c4 : List AV} {o1 o2 o3 x1 x2 x3 : AObj} (h4 : s.get 4 = some (.cells false c0)) (h1 : s.get 1 = some o1) (h2 : s.get 2 = some o2) (h3 : s.get 3 = some o3)
include h4 h1 h2 h3
theorem uni_get (c : Nat) : (uni s c4 x1 x2 x3).get c = ug s c4 x1 x2 x3 c := by
  unfold uni ug
  by_cases e3 : c = 3
  · subst e3
    simp [get_set, h3]
  by_cases e2 : c = 2
  · subst e2
    simp [get_set, h2]
  by_cases e1 : c = 1
  · subst e1
    simp [get_set, h1]
  by_cases e4 : c = 4
  · subst e4
    simp [get_set, h4]
  simp [get_set, e1, e2, e3, e4]
theorem uni_log : ∀ b, b < s.nx → b ∉ [3, 2, 1, 4] → (uni s c4 x1 x2 x3).get b = s.get b := by
  intro b _ hb
  rw [uni_get h4 h1 h2 h3]
  simp only [List.mem_cons, List.not_mem_nil, or_false, not_or] at hb
  unfold ug
  rw [if_neg hb.1, if_neg hb.2.1, if_neg hb.2.2.1, if_neg hb.2.2.2]
theorem toU {P : Program} {f : FuncId} {args vs : List AV} {e : AExit} {s1 : AS} (xN : AObj) (h : Sound P (.call f args s) ⟨e, vs, s1⟩) (hk : s1.h.bs.map (·.1) = s.h.bs.map (·.1)) (hnx : s1.nx = s.nx) (hlen : s1.h.len = s.h.len) (hg : ∀ c, s1.get c = ug s c4 x1 x2 x3 c) :
    Sound P (.call f args s) ⟨e, vs, (uni s c4 x1 x2 x3).push xN⟩ := by
  refine Sound.ghost xN (Sound.recast h (fun c => by rw [uni_get h4 h1 h2 h3, hg]) ?_ ?_ ?_ ⟨[3, 2, 1, 4], rfl, uni_log h4 h1 h2 h3⟩)
  · show (setB (setB (setB (setB s.h.bs 4 (.cells false c4)) 1 x1) 2 x2) 3 x3).map (·.1) = s1.h.bs.map (·.1)
    rw [setB_keys, setB_keys, setB_keys, setB_keys, hk]
  · exact hnx.symm
  · exact hlen.symm
theorem toUp {P : Program} {f : FuncId} {args vs : List AV} {e : AExit} {s1 : AS} {xN : AObj} (h : Sound P (.call f args s) ⟨e, vs, s1.push xN⟩) (hk : s1.h.bs.map (·.1) = s.h.bs.map (·.1)) (hnx : s1.nx = s.nx) (hlen : s1.h.len = s.h.len) (hg : ∀ c, s1.get c = ug s c4 x1 x2 x3 c) :
    Sound P (.call f args s) ⟨e, vs, (uni s c4 x1 x2 x3).push xN⟩ := by
  refine Sound.recast h (fun c => ?_) ?_ ?_ ?_ ⟨[3, 2, 1, 4], rfl, fun b hb hn => ?_⟩
  · have e1 : (uni s c4 x1 x2 x3).nx = s.nx := rfl
    rw [get_push, get_push, e1, hnx, uni_get h4 h1 h2 h3, hg]
  · show s.nx :: (setB (setB (setB (setB s.h.bs 4 (.cells false c4)) 1 x1) 2 x2) 3 x3).map (·.1) = s1.nx :: s1.h.bs.map (·.1)
    rw [setB_keys, setB_keys, setB_keys, setB_keys, hk, hnx]
  · show s.nx + 1 = s1.nx + 1
    rw [hnx]
  · show s.h.len + 1 = s1.h.len + 1
    rw [hlen]
  · have e1 : (uni s c4 x1 x2 x3).nx = s.nx := rfl
    rw [get_push, e1, if_neg (by omega)]
    exact uni_log h4 h1 h2 h3 b hb hn
end
/-- The blocks behind an op; r: whose place a new block takes (0: of none). -/
def moved (r nx b : Nat) : Nat := if b = r ∧ r ≠ 0 then nx else b
structure After (s : AS) (st' : S3) (r : Nat) (x1 x2 x3 xN : AObj) : Prop where
  le : r ≤ 3
  f1 : x1 = .dead ∨ Free x1
  f2 : x2 = .dead ∨ Free x2
  f3 : x3 = .dead ∨ Free x3
  fN : Free xN
  e1 : r ≠ 1 → x1 = st'.oS
  e2 : r ≠ 2 → x2 = st'.oT
  e3 : r ≠ 3 → x3 = st'.oQ
  n1 : r = 1 → xN = st'.oS
  n2 : r = 2 → xN = st'.oT
  n3 : r = 3 → xN = st'.oQ
def qlen : Option (List Int × Nat) → Nat
  | none => 0
  | some z => z.1.length
def phO : AObj := .map [] [] 0
theorem phFree : Free phO := ⟨rfl, rfl⟩
def Does (s : AS) (S T : Option (List (Int × Int))) (Q : Option (List Int × Nat)) (op : Nat) (k v : Int) : Prop :=
  ∃ S' T' Q' st' r x1 x2 x3 xN, Inv3 S' T' Q' st' ∧ rep S' T' Q' = (stepP (rep S T Q) op k v).2 ∧ qlen Q' ≤ qlen Q + 1 ∧ After s st' r x1 x2 x3 xN ∧
    Sound Try.prog (.call 9 [.ptr 4 0, .int .u8 (Int.ofNat op), .int .u64 k, .int .u64 v] s) ⟨.ret, [.tuple [.int .u8 (Int.ofNat (stepP (rep S T Q) op k v).1.1), .int .u64 (stepP (rep S T Q) op k v).1.2]], (uni s [st'.mS.ren (moved r s.nx), st'.mT.ren (moved r s.nx), st'.q.ren (moved r s.nx)] x1 x2 x3).push xN⟩
section
variable {s : AS} {S T : Option (List (Int × Int))} {Q : Option (List Int × Nat)} {st : S3} {k v : Int} (inv : Inv3 S T Q st) (h4 : s.get 4 = some (.cells false [st.mS, st.mT, st.q])) (h1 : s.get 1 = some st.oS) (h2 : s.get 2 = some st.oT) (h3 : s.get 3 = some st.oQ)
include inv h4 h1 h2 h3
/-- Nothing changes. -/
theorem does_same {op : Nat} (hp : (stepP (rep S T Q) op k v).2 = rep S T Q) (h : Sound Try.prog (.call 9 [.ptr 4 0, .int .u8 (Int.ofNat op), .int .u64 k, .int .u64 v] s) ⟨.ret, [.tuple [.int .u8 (Int.ofNat (stepP (rep S T Q) op k v).1.1), .int .u64 (stepP (rep S T Q) op k v).1.2]], s⟩) : Does s S T Q op k v := by
  refine ⟨S, T, Q, st, 0, st.oS, st.oT, st.oQ, phO, inv, hp.symm, by omega, ⟨by omega, .inr inv.s.fr, .inr inv.t.fr, .inr inv.q.fr, phFree, fun _ => rfl, fun _ => rfl, fun _ => rfl, fun h => by omega, fun h => by omega, fun h => by omega⟩, toU h4 h1 h2 h3 phO h rfl rfl rfl fun c => ?_⟩
  rw [inv.s.ren _ rfl, inv.t.ren _ rfl, inv.q.ren _ rfl]
  unfold ug
  by_cases e3 : c = 3
  · rw [if_pos e3, e3, h3]
  by_cases e2 : c = 2
  · rw [if_neg e3, if_pos e2, e2, h2]
  by_cases e1 : c = 1
  · rw [if_neg e3, if_neg e2, if_pos e1, e1, h1]
  by_cases e4 : c = 4
  · rw [if_neg e3, if_neg e2, if_neg e1, if_pos e4, e4, h4]
  rw [if_neg e3, if_neg e2, if_neg e1, if_neg e4]
/-- The set's map is another one. -/
theorem does_S {op : Nat} {es : List (Int × Int)} {bn : List Nat} {ck : Nat} (hS : st.mS = .map 1) (hp : (stepP (rep S T Q) op k v).2 = rep (some es) T Q) (h : Sound Try.prog (.call 9 [.ptr 4 0, .int .u8 (Int.ofNat op), .int .u64 k, .int .u64 v] s) ⟨.ret, [.tuple [.int .u8 (Int.ofNat (stepP (rep S T Q) op k v).1.1), .int .u64 (stepP (rep S T Q) op k v).1.2]], s.set 1 (.map (mapE .u64 .u64 es) bn ck)⟩) : Does s S T Q op k v := by
  refine ⟨some es, T, Q, ⟨.map 1, st.mT, st.q, .map (mapE .u64 .u64 es) bn ck, st.oT, st.oQ⟩, 0, .map (mapE .u64 .u64 es) bn ck, st.oT, st.oQ, phO, ⟨MO.mk, inv.t, inv.q⟩, hp.symm, by omega, ⟨by omega, .inr (freeMap _ _ _), .inr inv.t.fr, .inr inv.q.fr, phFree, fun _ => rfl, fun _ => rfl, fun _ => rfl, fun h => by omega, fun h => by omega, fun h => by omega⟩, toU h4 h1 h2 h3 phO h (setB_keys _ _ _) rfl rfl fun c => ?_⟩
  show _ = ug s [.map 1, st.mT.ren _, st.q.ren _] _ _ _ c
  rw [inv.t.ren _ rfl, inv.q.ren _ rfl, get_set]
  unfold ug
  by_cases e3 : c = 3
  · subst e3; simp [h3]
  by_cases e2 : c = 2
  · subst e2; simp [h2]
  by_cases e1 : c = 1
  · subst e1; simp [h1]
  by_cases e4 : c = 4
  · subst e4; simp [h4, hS]
  simp [e1, e2, e3, e4]
theorem does_T {op : Nat} {es : List (Int × Int)} {bn : List Nat} {ck : Nat} (hT : st.mT = .map 2) (hp : (stepP (rep S T Q) op k v).2 = rep S (some es) Q) (h : Sound Try.prog (.call 9 [.ptr 4 0, .int .u8 (Int.ofNat op), .int .u64 k, .int .u64 v] s) ⟨.ret, [.tuple [.int .u8 (Int.ofNat (stepP (rep S T Q) op k v).1.1), .int .u64 (stepP (rep S T Q) op k v).1.2]], s.set 2 (.map (mapE .u64 .u64 es) bn ck)⟩) : Does s S T Q op k v := by
  refine ⟨S, some es, Q, ⟨st.mS, .map 2, st.q, st.oS, .map (mapE .u64 .u64 es) bn ck, st.oQ⟩, 0, st.oS, .map (mapE .u64 .u64 es) bn ck, st.oQ, phO, ⟨inv.s, MO.mk, inv.q⟩, hp.symm, by omega, ⟨by omega, .inr inv.s.fr, .inr (freeMap _ _ _), .inr inv.q.fr, phFree, fun _ => rfl, fun _ => rfl, fun _ => rfl, fun h => by omega, fun h => by omega, fun h => by omega⟩, toU h4 h1 h2 h3 phO h (setB_keys _ _ _) rfl rfl fun c => ?_⟩
  show _ = ug s [st.mS.ren _, .map 2, st.q.ren _] _ _ _ c
  rw [inv.s.ren _ rfl, inv.q.ren _ rfl, get_set]
  unfold ug
  by_cases e3 : c = 3
  · subst e3; simp [h3]
  by_cases e2 : c = 2
  · subst e2; simp [h2]
  by_cases e1 : c = 1
  · subst e1; simp [h1]
  by_cases e4 : c = 4
  · subst e4; simp [h4, hT]
  simp [e1, e2, e3, e4]
/-- A first map of the set, of the map. -/
theorem does_nS {op : Nat} {w : Int} {bn : List Nat} {ck : Nat} (hp : (stepP (rep S T Q) op k v).2 = rep (some [(k, w)]) T Q) (h : Sound Try.prog (.call 9 [.ptr 4 0, .int .u8 (Int.ofNat op), .int .u64 k, .int .u64 v] s) ⟨.ret, [.tuple [.int .u8 (Int.ofNat (stepP (rep S T Q) op k v).1.1), .int .u64 (stepP (rep S T Q) op k v).1.2]], (s.set 4 (.cells false [.map s.nx, st.mT, st.q])).push (.map [(.int .u64 k, .int .u64 w)] bn ck)⟩) : Does s S T Q op k v := by
  refine ⟨some [(k, w)], T, Q, ⟨.map 1, st.mT, st.q, .map [(.int .u64 k, .int .u64 w)] bn ck, st.oT, st.oQ⟩, 1, st.oS, st.oT, st.oQ, .map [(.int .u64 k, .int .u64 w)] bn ck, ⟨MO.mk (es := [(k, w)]), inv.t, inv.q⟩, hp.symm, by omega, ⟨by omega, .inr inv.s.fr, .inr inv.t.fr, .inr inv.q.fr, ⟨rfl, rfl⟩, fun h => absurd rfl h, fun _ => rfl, fun _ => rfl, fun _ => rfl, fun h => by omega, fun h => by omega⟩, toUp h4 h1 h2 h3 h (setB_keys _ _ _) rfl rfl fun c => ?_⟩
  show _ = ug s [.map s.nx, st.mT.ren _, st.q.ren _] _ _ _ c
  rw [inv.t.ren _ rfl, inv.q.ren _ rfl, get_set]
  unfold ug
  by_cases e3 : c = 3
  · subst e3; simp [h3]
  by_cases e2 : c = 2
  · subst e2; simp [h2]
  by_cases e1 : c = 1
  · subst e1; simp [h1]
  by_cases e4 : c = 4
  · subst e4; simp [h4]
  simp [e1, e2, e3, e4]
theorem does_nT {op : Nat} {w : Int} {bn : List Nat} {ck : Nat} (hp : (stepP (rep S T Q) op k v).2 = rep S (some [(k, w)]) Q) (h : Sound Try.prog (.call 9 [.ptr 4 0, .int .u8 (Int.ofNat op), .int .u64 k, .int .u64 v] s) ⟨.ret, [.tuple [.int .u8 (Int.ofNat (stepP (rep S T Q) op k v).1.1), .int .u64 (stepP (rep S T Q) op k v).1.2]], (s.set 4 (.cells false [st.mS, .map s.nx, st.q])).push (.map [(.int .u64 k, .int .u64 w)] bn ck)⟩) : Does s S T Q op k v := by
  refine ⟨S, some [(k, w)], Q, ⟨st.mS, .map 2, st.q, st.oS, .map [(.int .u64 k, .int .u64 w)] bn ck, st.oQ⟩, 2, st.oS, st.oT, st.oQ, .map [(.int .u64 k, .int .u64 w)] bn ck, ⟨inv.s, MO.mk (es := [(k, w)]), inv.q⟩, hp.symm, by omega, ⟨by omega, .inr inv.s.fr, .inr inv.t.fr, .inr inv.q.fr, ⟨rfl, rfl⟩, fun _ => rfl, fun h => absurd rfl h, fun _ => rfl, fun h => by omega, fun _ => rfl, fun h => by omega⟩, toUp h4 h1 h2 h3 h (setB_keys _ _ _) rfl rfl fun c => ?_⟩
  show _ = ug s [st.mS.ren _, .map s.nx, st.q.ren _] _ _ _ c
  rw [inv.s.ren _ rfl, inv.q.ren _ rfl, get_set]
  unfold ug
  by_cases e3 : c = 3
  · subst e3; simp [h3]
  by_cases e2 : c = 2
  · subst e2; simp [h2]
  by_cases e1 : c = 1
  · subst e1; simp [h1]
  by_cases e4 : c = 4
  · subst e4; simp [h4]
  simp [e1, e2, e3, e4]
end
end Go.Proofs.Ythooafgfpnedhaa.specsJudge
