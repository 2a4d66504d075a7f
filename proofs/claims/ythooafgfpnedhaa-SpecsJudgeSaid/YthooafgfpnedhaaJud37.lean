/- Both states say the same, behind whatever ops. Conditions: those that each theorem names, and no others. -/
import Derived.Test.YthooafgfpnedhaaJud35
namespace Go.Proofs.Ythooafgfpnedhaa.specsJudge
open Go Go.Mini
/-! ### the program's state and the document's say the same -/
theorem gm_mem {k x : Int} : ∀ {es : List Pr}, getM es k = some x → (k, x) ∈ es
  | [], h => by cases h
  | y :: t, h => by
    have h : (if k = y.1 then some y.2 else getM t k) = some x := h
    split at h
    · rename_i e
      have : y = (k, x) := by
        obtain ⟨a, b⟩ := y
        simp only at e h
        rw [← e, Option.some.inj h]
      rw [this]
      exact List.mem_cons_self
    · exact List.mem_cons_of_mem _ (gm_mem h)
theorem gm_none {k : Int} : ∀ {es : List Pr}, getM es k = none → ∀ x, (k, x) ∉ es
  | [], _, _, h => by cases h
  | y :: t, h, x, hm => by
    have h : (if k = y.1 then some y.2 else getM t k) = none := h
    split at h
    · cases h
    · rename_i e
      rcases List.mem_cons.1 hm with hm | hm
      · rw [← hm] at e
        exact e rfl
      · exact gm_none h x hm
def SrtK (l : List Pr) : Prop := l.Pairwise fun a b => a.1 < b.1
theorem srtK_one {l : List Pr} (h : SrtK l) {k x y : Int} (hx : (k, x) ∈ l) (hy : (k, y) ∈ l) : x = y := by
  obtain ⟨i, hi, ei⟩ := List.getElem_of_mem hx
  obtain ⟨j, hj, ej⟩ := List.getElem_of_mem hy
  have hp := List.pairwise_iff_getElem.1 h
  rcases Nat.lt_trichotomy i j with hlt | rfl | hlt
  · have := hp i j hi hj hlt
    rw [ei, ej] at this
    exact absurd this (Int.lt_irrefl _)
  · rw [ei] at ej
    exact (Prod.mk.inj ej).2
  · have := hp j i hj hi hlt
    rw [ei, ej] at this
    exact absurd this (Int.lt_irrefl _)
theorem has_true {l : List Pr} {k : Int} (h : hasL l k = true) : (k, valL l k) ∈ l := by
  obtain ⟨_, p, h2, h3, h4⟩ := hasL_lt h
  have := List.mem_of_getElem? h2
  rw [← h4, ← h3]
  exact this
theorem has_false {l : List Pr} (hs : SrtK l) {k : Int} (h : hasL l k = false) (x : Int) : (k, x) ∉ l := by
  intro hm
  obtain ⟨j, hj, ej⟩ := List.getElem_of_mem hm
  have hp := List.pairwise_iff_getElem.1 hs
  by_cases h1 : j < posL l k
  · obtain ⟨p, e1, e2⟩ := posL_lt l k j h1
    rw [List.getElem?_eq_getElem hj, ej] at e1
    rw [← Option.some.inj e1] at e2
    exact Int.lt_irrefl _ e2
  · have h2 : posL l k < l.length := by omega
    obtain ⟨p, e1, e2⟩ := posL_at l k h2
    have e3 : l[posL l k] = p := by
      rw [List.getElem?_eq_getElem h2] at e1
      exact Option.some.inj e1
    by_cases h3 : j = posL l k
    · subst h3
      rw [ej] at e3
      unfold hasL at h
      rw [e1, ← e3] at h
      simp at h
    · have := hp _ _ h2 hj (by omega)
      rw [e3, ej] at this
      exact e2 this
structure RelM (m l : List Pr) : Prop where
  perm : m.Perm l
  srt : SrtK l
theorem RelM.get {m l : List Pr} (h : RelM m l) (k : Int) : getM m k = if hasL l k then some (valL l k) else none := by
  cases hh : hasL l k with
  | true =>
    have h1 := has_true hh
    cases hg : getM m k with
    | none => exact absurd (h.perm.mem_iff.2 h1) (gm_none hg _)
    | some x =>
      have h2 := h.perm.mem_iff.1 (gm_mem hg)
      rw [srtK_one h.srt h2 h1]
      rfl
  | false =>
    cases hg : getM m k with
    | none => rfl
    | some x => exact absurd (h.perm.mem_iff.1 (gm_mem hg)) (has_false h.srt hh x)
theorem put_perm {k v : Int} : ∀ {es : List Pr}, getM es k = none → (putM es k v).Perm ((k, v) :: es)
  | [], _ => List.Perm.refl _
  | y :: t, h => by
    have h : (if k = y.1 then some y.2 else getM t k) = none := h
    split at h
    · cases h
    · rename_i e
      show (if k = y.1 then (k, v) :: t else y :: putM t k v).Perm _
      rw [if_neg e]
      exact ((put_perm h).cons y).trans (List.Perm.swap _ _ _)
theorem del_perm {k x : Int} : ∀ {es : List Pr}, getM es k = some x → es.Perm ((k, x) :: delM es k)
  | [], h => by cases h
  | y :: t, h => by
    have h : (if k = y.1 then some y.2 else getM t k) = some x := h
    show (y :: t).Perm ((k, x) :: (if k = y.1 then t else y :: delM t k))
    split at h
    · rename_i e
      rw [if_pos e]
      have : y = (k, x) := by
        obtain ⟨a, b⟩ := y
        simp only at e h
        rw [← e, Option.some.inj h]
      rw [this]
    · rename_i e
      rw [if_neg e]
      exact ((del_perm h).cons y).trans (List.Perm.swap _ _ _)
theorem RelM.ins {m l : List Pr} (h : RelM m l) {k : Int} (v : Int) (hh : hasL l k = false) : RelM (putM m k v) (insL l k v) := by
  have hg : getM m k = none := by rw [h.get, hh]; rfl
  have hp := List.pairwise_iff_getElem.1 h.srt
  refine ⟨(put_perm hg).trans ((h.perm.cons _).trans ?_), ?_⟩
  · have : ((k, v) :: (l.take (posL l k) ++ l.drop (posL l k))).Perm (insL l k v) := List.perm_middle.symm
    rw [List.take_append_drop] at this
    exact this
  · have ht : ∀ a ∈ l.take (posL l k), a.1 < k := fun a ha => by
      obtain ⟨j, hj, rfl⟩ := List.getElem_of_mem ha
      have hj' : j < posL l k := by
        rw [List.length_take] at hj
        omega
      obtain ⟨p, e1, e2⟩ := posL_lt l k j hj'
      rw [List.getElem_take]
      rw [List.getElem?_eq_getElem (by rw [List.length_take] at hj; omega)] at e1
      rw [Option.some.inj e1]
      exact e2
    have hd : ∀ a ∈ l.drop (posL l k), k < a.1 := fun a ha => by
      obtain ⟨j, hj, rfl⟩ := List.getElem_of_mem ha
      have hj' : posL l k + j < l.length := by
        rw [List.length_drop] at hj
        omega
      have h2 : posL l k < l.length := by omega
      obtain ⟨p, e1, e2⟩ := posL_at l k h2
      have e3 : l[posL l k] = p := by
        rw [List.getElem?_eq_getElem h2] at e1
        exact Option.some.inj e1
      have hne : p.1 ≠ k := fun e => by
        unfold hasL at hh
        rw [e1] at hh
        simp [e] at hh
      have hge : ∀ i (hi : posL l k + i < l.length), p.1 ≤ (l[posL l k + i]).1 := fun i hi => by
        cases i with
        | zero => simp only [Nat.add_zero, e3]; exact Int.le_refl _
        | succ i =>
          have := hp _ _ h2 hi (by omega)
          rw [e3] at this
          exact Int.le_of_lt this
      rw [List.getElem_drop]
      have := hge j hj'
      omega
    show SrtK (l.take _ ++ (k, v) :: l.drop _)
    refine List.pairwise_append.2 ⟨List.Pairwise.sublist (List.take_sublist _ _) h.srt, List.pairwise_cons.2 ⟨fun a ha => hd a ha, List.Pairwise.sublist (List.drop_sublist _ _) h.srt⟩, fun a ha b hb => ?_⟩
    rcases List.mem_cons.1 hb with rfl | hb
    · exact ht a ha
    · exact Int.lt_trans (ht a ha) (hd b hb)
theorem RelM.del {m l : List Pr} (h : RelM m l) {k : Int} (hh : hasL l k = true) : RelM (delM m k) (delL l k) := by
  have hg : getM m k = some (valL l k) := by rw [h.get, hh]; rfl
  obtain ⟨h1, p, h2, h3, h4⟩ := hasL_lt hh
  have e3 : l[posL l k] = (k, valL l k) := by
    rw [List.getElem?_eq_getElem h1] at h2
    rw [Option.some.inj h2, ← h4, ← h3]
  have hl : l = l.take (posL l k) ++ (k, valL l k) :: l.drop (posL l k + 1) := by
    rw [← e3, ← List.drop_eq_getElem_cons h1, List.take_append_drop]
  refine ⟨?_, List.Pairwise.sublist (show (delL l k).Sublist l from ?_) h.srt⟩
  · have p1 : ((k, valL l k) :: delM m k).Perm l := (del_perm hg).symm.trans h.perm
    have p2 : l.Perm ((k, valL l k) :: delL l k) := by
      conv => lhs; rw [hl]
      exact List.perm_middle
    exact (p1.trans p2).cons_inv
  · unfold delL
    conv => rhs; rw [hl]
    exact List.Sublist.append (List.Sublist.refl _) (List.sublist_cons_self _ _)
structure Rel (ps : PS) (ds : DP) : Prop where
  s : RelM ps.1 ds.1
  t : RelM ps.2.1 ds.2.1
  q : ps.2.2 = ds.2.2
theorem put_rel {m l : List Pr} (h : RelM m l) (k v : Int) : (putP m k v).1 = (if hasL l k then (2, 0) else (1, 0)) ∧ RelM (putP m k v).2 (if hasL l k then l else insL l k v) := by
  have hg := h.get k
  unfold putP
  cases hh : hasL l k with
  | true =>
    rw [hh] at hg
    rw [hg]
    exact ⟨rfl, h⟩
  | false =>
    rw [hh] at hg
    rw [hg]
    exact ⟨rfl, h.ins v hh⟩
theorem drop_rel {m l : List Pr} (h : RelM m l) (k : Int) : (dropP m k).1 = (if hasL l k then (1, 0) else (2, 0)) ∧ RelM (dropP m k).2 (if hasL l k then delL l k else l) := by
  have hg := h.get k
  unfold dropP
  cases hh : hasL l k with
  | true =>
    rw [hh] at hg
    rw [hg]
    exact ⟨rfl, h.del hh⟩
  | false =>
    rw [hh] at hg
    rw [hg]
    exact ⟨rfl, h⟩
theorem step_rel {ps : PS} {ds : DP} (h : Rel ps ds) (op : Nat) (k v : Int) : (stepP ps op k v).1 = (stepD ds op k v).1 ∧ Rel (stepP ps op k v).2 (stepD ds op k v).2 := by
  have c : op = 0 ∨ op = 1 ∨ op = 2 ∨ op = 3 ∨ op = 4 ∨ op = 5 ∨ op = 6 ∨ op = 7 ∨ 8 ≤ op := by omega
  rcases c with rfl | rfl | rfl | rfl | rfl | rfl | rfl | rfl | h8
  · obtain ⟨e1, e2⟩ := put_rel h.s k 0
    show (putP ps.1 k 0).1 = (if hasL ds.1 k then _ else _ : (Nat × Int) × DP).1 ∧ Rel ((putP ps.1 k 0).2, ps.2.1, ps.2.2) (if hasL ds.1 k then _ else _ : (Nat × Int) × DP).2
    cases hh : hasL ds.1 k <;> rw [hh] at e1 e2 <;> exact ⟨e1, ⟨e2, h.t, h.q⟩⟩
  · obtain ⟨e1, e2⟩ := drop_rel h.s k
    show (dropP ps.1 k).1 = (if hasL ds.1 k then _ else _ : (Nat × Int) × DP).1 ∧ Rel ((dropP ps.1 k).2, ps.2.1, ps.2.2) (if hasL ds.1 k then _ else _ : (Nat × Int) × DP).2
    cases hh : hasL ds.1 k <;> rw [hh] at e1 e2 <;> exact ⟨e1, ⟨e2, h.t, h.q⟩⟩
  · refine ⟨?_, h⟩
    show (if (getM ps.1 k).isSome then 1 else 2, (0 : Int)) = (if hasL ds.1 k then 1 else 2, 0)
    rw [h.s.get k]
    cases hasL ds.1 k <;> rfl
  · refine ⟨rfl, h.s, h.t, ?_⟩
    show ps.2.2 ++ [v] = ds.2.2 ++ [v]
    rw [h.q]
  · show (match ps.2.2 with
      | [] => ((2, 0), ps)
      | x :: Q => ((1, x), ps.1, ps.2.1, Q) : (Nat × Int) × PS).1 = (popD ds).1 ∧ Rel (match ps.2.2 with
      | [] => ((2, 0), ps)
      | x :: Q => ((1, x), ps.1, ps.2.1, Q) : (Nat × Int) × PS).2 (popD ds).2
    have hq := h.q
    unfold popD
    cases hd : ds.2.2 with
    | nil =>
      rw [hd] at hq
      rw [hq]
      exact ⟨rfl, h⟩
    | cons x Q =>
      rw [hd] at hq
      rw [hq]
      exact ⟨rfl, ⟨h.s, h.t, rfl⟩⟩
  · obtain ⟨e1, e2⟩ := put_rel h.t k v
    show (putP ps.2.1 k v).1 = (if hasL ds.2.1 k then _ else _ : (Nat × Int) × DP).1 ∧ Rel (ps.1, (putP ps.2.1 k v).2, ps.2.2) (if hasL ds.2.1 k then _ else _ : (Nat × Int) × DP).2
    cases hh : hasL ds.2.1 k <;> rw [hh] at e1 e2 <;> exact ⟨e1, ⟨h.s, e2, h.q⟩⟩
  · obtain ⟨e1, e2⟩ := drop_rel h.t k
    show (dropP ps.2.1 k).1 = (if hasL ds.2.1 k then _ else _ : (Nat × Int) × DP).1 ∧ Rel (ps.1, (dropP ps.2.1 k).2, ps.2.2) (if hasL ds.2.1 k then _ else _ : (Nat × Int) × DP).2
    cases hh : hasL ds.2.1 k <;> rw [hh] at e1 e2 <;> exact ⟨e1, ⟨h.s, e2, h.q⟩⟩
  · have hg := h.t.get k
    show (match getM ps.2.1 k with
      | some x => ((1, x), ps)
      | none => ((2, 0), ps) : (Nat × Int) × PS).1 = (if hasL ds.2.1 k then _ else _ : (Nat × Int) × DP).1 ∧ Rel (match getM ps.2.1 k with
      | some x => ((1, x), ps)
      | none => ((2, 0), ps) : (Nat × Int) × PS).2 (if hasL ds.2.1 k then _ else _ : (Nat × Int) × DP).2
    cases hh : hasL ds.2.1 k <;> rw [hh] at hg <;> rw [hg] <;> exact ⟨rfl, h⟩
  · obtain ⟨m, rfl⟩ : ∃ m, op = m + 8 := ⟨op - 8, by omega⟩
    exact ⟨rfl, h⟩
theorem judge_rel (f : Nat → Call9) (opN : Nat → Nat) : ∀ (D : List Nat) {ps : PS} {ds : DP}, Rel ps ds → judgeL f opN D ps = judgeD f opN D ds
  | [], _, _, _ => rfl
  | d :: D, ps, ds, h => by
    obtain ⟨e1, e2⟩ := step_rel h (opN d) (kF (f d)) (vF (f d))
    show (if badF _ _ = true then _ else _) = (if badF _ _ = true then _ else _)
    rw [e1, judge_rel f opN D e2]
theorem rel0 : Rel ([], [], []) ([], [], []) := ⟨⟨List.Perm.refl _, List.Pairwise.nil⟩, ⟨List.Perm.refl _, List.Pairwise.nil⟩, rfl⟩
end Go.Proofs.Ythooafgfpnedhaa.specsJudge
