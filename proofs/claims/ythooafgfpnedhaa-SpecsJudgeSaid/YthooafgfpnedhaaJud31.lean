/- The Do of the document is a plain step. Conditions: those that each theorem names, and no others. -/
import Derived.Test.YthooafgfpnedhaaJud30
import Derived.Test.YthooafgfpnedhaaJud26
import Derived.Test.YthooafgfpnedhaaJud25
namespace Go.Proofs.Ythooafgfpnedhaa.specsJudge
open Go Go.Mini
/-! ### the document's State.Do -/
abbrev DP : Type := List Pr × List Pr × List Int
def insL (l : List Pr) (k v : Int) : List Pr := l.take (posL l k) ++ (k, v) :: l.drop (posL l k)
def delL (l : List Pr) (k : Int) : List Pr := l.take (posL l k) ++ l.drop (posL l k + 1)
def valL (l : List Pr) (k : Int) : Int := match l[posL l k]? with
  | some p => p.2
  | none => 0
def popD (ds : DP) : (Nat × Int) × DP := match ds.2.2 with
  | [] => ((2, 0), ds)
  | x :: Q => ((1, x), ds.1, ds.2.1, Q)
def stepD (ds : DP) (op : Nat) (k v : Int) : (Nat × Int) × DP := match op with
  | 0 => if hasL ds.1 k then ((2, 0), ds) else ((1, 0), insL ds.1 k 0, ds.2.1, ds.2.2)
  | 1 => if hasL ds.1 k then ((1, 0), delL ds.1 k, ds.2.1, ds.2.2) else ((2, 0), ds)
  | 2 => ((if hasL ds.1 k then 1 else 2, 0), ds)
  | 3 => ((1, 0), ds.1, ds.2.1, ds.2.2 ++ [v])
  | 4 => popD ds
  | 5 => if hasL ds.2.1 k then ((2, 0), ds) else ((1, 0), ds.1, insL ds.2.1 k v, ds.2.2)
  | 6 => if hasL ds.2.1 k then ((1, 0), ds.1, delL ds.2.1 k, ds.2.2) else ((2, 0), ds)
  | 7 => if hasL ds.2.1 k then ((1, valL ds.2.1 k), ds) else ((2, 0), ds)
  | _ => ((0, 0), ds)
def LO (l : List Pr) (m : AV) (b : Nat) (o : AObj) : Prop := m = lv l b ∧ Free o ∧ (l ≠ [] → o = .cells false (pr l))
def qD (Q : List Int) (b : Nat) : AV := if Q = [] then .nilSlice else .osl b 0 Q.length 1
def QD (Q : List Int) (q : AV) (b : Nat) (o : AObj) : Prop := q = qD Q b ∧ Free o ∧ (Q ≠ [] → o = .cells false (uc Q))
theorem r30 : rowT Try.prog 30 30 1 = true := by kernel_rfl
theorem freePr (l : List Pr) : Free (.cells false (pr l)) := ⟨rfl, pr_names _ _⟩
theorem lv_ren (l : List Pr) (b : Nat) (π : Nat → Nat) : (lv l b).ren π = lv l (π b) := by
  unfold lv
  split <;> rfl
theorem qD_ren (Q : List Int) (b : Nat) (π : Nat → Nat) : (qD Q b).ren π = qD Q (π b) := by
  unfold qD
  split <;> rfl
theorem lv_nm (l : List Pr) {b n : Nat} (h : b < n) : (lv l b).names (fun c => Nat.blt c n) = true := by
  unfold lv
  split
  · rfl
  · simpa [AV.names] using h
theorem qD_nm (Q : List Int) {b n : Nat} (h : b < n) : (qD Q b).names (fun c => Nat.blt c n) = true := by
  unfold qD
  split
  · rfl
  · simpa [AV.names] using h
theorem LO.mk' {l : List Pr} {b : Nat} (h : l ≠ []) : LO l (.osl b 0 l.length 2) b (.cells false (pr l)) := ⟨(if_neg h).symm, freePr l, fun _ => rfl⟩
theorem LO.nil {b : Nat} {o : AObj} (h : Free o) : LO [] .nilSlice b o := ⟨rfl, h, fun h => absurd rfl h⟩
theorem QD.mk' {Q : List Int} {b : Nat} (h : Q ≠ []) : QD Q (.osl b 0 Q.length 1) b (.cells false (uc Q)) := ⟨(if_neg h).symm, freeUc Q, fun _ => rfl⟩
theorem hasL_lt {l : List Pr} {k : Int} (h : hasL l k = true) : posL l k < l.length ∧ ∃ p, l[posL l k]? = some p ∧ p.1 = k ∧ p.2 = valL l k := by
  unfold hasL at h
  cases hx : l[posL l k]? with
  | none =>
    rw [hx] at h
    cases h
  | some p =>
    rw [hx] at h
    refine ⟨(List.getElem?_eq_some_iff.1 hx).1, p, rfl, by simpa using h, ?_⟩
    unfold valL
    rw [hx]
theorem insL_ne (l : List Pr) (k v : Int) : insL l k v ≠ [] := by
  unfold insL
  simp
theorem insL_len (l : List Pr) (k v : Int) : (insL l k v).length = l.length + 1 := by
  have := posL_le l k
  unfold insL
  simp
  omega
theorem delL_len {l : List Pr} {k : Int} (h : posL l k < l.length) : (delL l k).length + 1 = l.length := by
  unfold delL
  simp
  omega
structure InvD (ds : DP) (st : S3) : Prop where
  s : LO ds.1 st.mS 1 st.oS
  t : LO ds.2.1 st.mT 2 st.oT
  q : QD ds.2.2 st.q 3 st.oQ
structure AfterD (st' : S3) (r nn : Nat) (x1 x2 x3 xA xB : AObj) : Prop where
  le : r = 0 ∨ r = 1 ∨ r = 2 ∨ r = 3
  hn : nn = 7 ∨ nn = 8
  f1 : Free x1
  f2 : Free x2
  f3 : x3 = .dead ∨ Free x3
  fA : Free xA
  fB : Free xB
  e1 : r ≠ 1 → x1 = st'.oS
  e2 : r ≠ 2 → x2 = st'.oT
  e3 : r ≠ 3 → x3 = st'.oQ
  n1 : r = 1 → (if nn = 7 then xA else xB) = st'.oS
  n2 : r = 2 → (if nn = 7 then xA else xB) = st'.oT
  n3 : r = 3 → (if nn = 7 then xA else xB) = st'.oQ
def JS (cp oW : AObj) (row c4 : List AV) (o1 o2 o3 : AObj) : AS := ⟨⟨[(6, cp), (5, oW), (4, .cells false c4), (3, o3), (2, o2), (1, o1), (0, .cells true row)], 7, none, [6]⟩, 7⟩
def UN (cp oW : AObj) (row c4 : List AV) (x1 x2 x3 xA xB : AObj) : AS := ⟨⟨[(8, xB), (7, xA), (6, cp), (5, oW), (4, .cells false c4), (3, x3), (2, x2), (1, x1), (0, .cells true row)], 9, none, [3, 2, 1, 4, 6]⟩, 9⟩
def DoesD (cp oW : AObj) (row : List AV) (ds : DP) (st : S3) (op : Nat) (k v : Int) : Prop :=
  ∃ st' r nn x1 x2 x3 xA xB, InvD (stepD ds op k v).2 st' ∧ AfterD st' r nn x1 x2 x3 xA xB ∧
    Sound Try.prog (.call 14 [.ptr 4 0, .int .i64 (Int.ofNat op), .int .u64 k, .int .u64 v] (JS cp oW row [st.mS, st.mT, st.q] st.oS st.oT st.oQ)) ⟨.ret, [.tuple [.int .i64 (Int.ofNat (stepD ds op k v).1.1), .int .u64 (stepD ds op k v).1.2]], UN cp oW row [st'.mS.ren (moved r nn), st'.mT.ren (moved r nn), st'.q.ren (moved r nn)] x1 x2 x3 xA xB⟩
theorem moved0 (nn : Nat) : moved 0 nn = fun b => b := by
  funext b
  unfold moved
  rw [if_neg]
  omega
section
variable {cp oW : AObj} {row : List AV} {ds : DP} {st : S3} {op : Nat} {k v : Int}
theorem dd {ds' : DP} {st' : S3} {a : Nat × Int} {r nn : Nat} {x1 x2 x3 xA xB : AObj} {c4 : List AV} {s1 : AS} (inv' : InvD ds' st') (af : AfterD st' r nn x1 x2 x3 xA xB) (hs : stepD ds op k v = (a, ds'))
    (h : Sound Try.prog (.call 14 [.ptr 4 0, .int .i64 (Int.ofNat op), .int .u64 k, .int .u64 v] (JS cp oW row [st.mS, st.mT, st.q] st.oS st.oT st.oQ)) ⟨.ret, [.tuple [.int .i64 (Int.ofNat a.1), .int .u64 a.2]], s1⟩)
    (hb : s1.h.bs = (UN cp oW row c4 x1 x2 x3 xA xB).h.bs) (hn : s1.nx = 9) (hl : s1.h.len = 9) (hc : c4 = [st'.mS.ren (moved r nn), st'.mT.ren (moved r nn), st'.q.ren (moved r nn)]) : DoesD cp oW row ds st op k v := by
  refine ⟨st', r, nn, x1, x2, x3, xA, xB, by rw [hs]; exact inv', af, ?_⟩
  rw [hs, ← hc]
  refine Sound.recast h (fun b => ?_) ?_ hn.symm hl.symm ⟨[3, 2, 1, 4], rfl, fun b hb hn => ?_⟩
  · show getB _ b = getB s1.h.bs b
    rw [hb]
  · show _ = s1.h.bs.map (·.1)
    rw [hb]
    rfl
  · have hb : b < 7 := hb
    simp only [List.mem_cons, List.not_mem_nil, or_false, not_or] at hn
    have : b = 0 ∨ b = 5 ∨ b = 6 := by omega
    rcases this with rfl | rfl | rfl <;> rfl
/-- Nothing is made, nothing written. -/
theorem dd_same {a : Nat × Int} {s1 : AS} (inv : InvD ds st) (hs : stepD ds op k v = (a, ds))
    (h : Sound Try.prog (.call 14 [.ptr 4 0, .int .i64 (Int.ofNat op), .int .u64 k, .int .u64 v] (JS cp oW row [st.mS, st.mT, st.q] st.oS st.oT st.oQ)) ⟨.ret, [.tuple [.int .i64 (Int.ofNat a.1), .int .u64 a.2]], s1⟩)
    (hb : s1 = JS cp oW row [st.mS, st.mT, st.q] st.oS st.oT st.oQ) : DoesD cp oW row ds st op k v := by
  subst hb
  refine dd (r := 0) (nn := 7) (xA := phO) (xB := phO) inv ⟨.inl rfl, .inl rfl, inv.s.2.1, inv.t.2.1, .inr inv.q.2.1, phFree, phFree, fun _ => rfl, fun _ => rfl, fun _ => rfl, fun h => by omega, fun h => by omega, fun h => by omega⟩ hs (Sound.ghost phO (Sound.ghost phO h)) rfl rfl rfl ?_
  rw [moved0, ren_id, ren_id, ren_id]
theorem LO.rn {l : List Pr} {m : AV} {b : Nat} {o : AObj} (h : LO l m b o) (π : Nat → Nat) (hp : π b = b) : m.ren π = m := by rw [h.1, lv_ren, hp]
theorem QD.rn {l : List Int} {m : AV} {b : Nat} {o : AObj} (h : QD l m b o) (π : Nat → Nat) (hp : π b = b) : m.ren π = m := by rw [h.1, qD_ren, hp]
variable (hS : ds.1.length ≤ 1000) (hT : ds.2.1.length ≤ 1000) (hQ : ds.2.2.length ≤ 1000)
include hS hT
theorem find2 (inv : InvD ds st) (w1 w2 : List Nat) : (Qst.snd (.call 31 [st.mS, .int .u64 k] ⟨⟨[(6, cp), (5, oW), (4, .cells false [st.mS, st.mT, st.q]), (3, st.oQ), (2, st.oT), (1, st.oS), (0, .cells true row)], 7, none, w1⟩, 7⟩) ⟨.ret, [.tuple [.int .i64 (Int.ofNat (posL ds.1 k)), .bool (hasL ds.1 k)]], ⟨⟨[(6, cp), (5, oW), (4, .cells false [st.mS, st.mT, st.q]), (3, st.oQ), (2, st.oT), (1, st.oS), (0, .cells true row)], 7, none, w1⟩, 7⟩⟩).ok Try.prog ∧
    (Qst.snd (.call 31 [st.mT, .int .u64 k] ⟨⟨[(6, cp), (5, oW), (4, .cells false [st.mS, st.mT, st.q]), (3, st.oQ), (2, st.oT), (1, st.oS), (0, .cells true row)], 7, none, w2⟩, 7⟩) ⟨.ret, [.tuple [.int .i64 (Int.ofNat (posL ds.2.1 k)), .bool (hasL ds.2.1 k)]], ⟨⟨[(6, cp), (5, oW), (4, .cells false [st.mS, st.mT, st.q]), (3, st.oQ), (2, st.oT), (1, st.oS), (0, .cells true row)], 7, none, w2⟩, 7⟩⟩).ok Try.prog := by
  constructor
  · have := findC hS k (s := ⟨⟨[(6, cp), (5, oW), (4, .cells false [st.mS, st.mT, st.q]), (3, st.oQ), (2, st.oT), (1, st.oS), (0, .cells true row)], 7, none, w1⟩, 7⟩) (b := 1) (fun h => congrArg some (inv.s.2.2 h))
    rw [← inv.s.1] at this
    exact this
  · have := findC hT k (s := ⟨⟨[(6, cp), (5, oW), (4, .cells false [st.mS, st.mT, st.q]), (3, st.oQ), (2, st.oT), (1, st.oS), (0, .cells true row)], 7, none, w2⟩, 7⟩) (b := 2) (fun h => congrArg some (inv.t.2.2 h))
    rw [← inv.t.1] at this
    exact this
theorem doD0 (inv : InvD ds st) : DoesD cp oW row ds st 0 k v := by
  cases hh : hasL ds.1 k with
  | true =>
    have f := find2 (cp := cp) (oW := oW) (row := row) (k := k) hS hT inv [] []
    rw [hh] at f
    exact dd_same inv (a := (2, 0)) (by show (if hasL ds.1 k = true then _ else _) = _; rw [hh]; rfl) (runX_sound mixed none_sound (e0y st.mS st.mT st.q 0 0 (posL ds.1 k) (posL ds.2.1 k) 0 (hasL ds.2.1 k) k v 0 st.oS st.oT st.oQ oW cp .dead row) ⟨f.1, f.2, trivial⟩) rfl
  | false =>
    have f := find2 (cp := cp) (oW := oW) (row := row) (k := k) hS hT inv [] []
    rw [hh] at f
    have w := withC hS (k, 0) (posL_le ds.1 k) (s := ⟨⟨[(6, cp), (5, oW), (4, .cells false [st.mS, st.mT, st.q]), (3, st.oQ), (2, st.oT), (1, st.oS), (0, .cells true row)], 7, none, []⟩, 7⟩) (b := 1) (fun h => congrArg some (inv.s.2.2 h))
    rw [← inv.s.1] at w
    have run := runX_sound mixed none_sound (e0n st.mS st.mT st.q 0 (ds.1.length + 1) (posL ds.1 k) (posL ds.2.1 k) 0 (hasL ds.2.1 k) k v 0 st.oS st.oT st.oQ oW cp (.cells false (pr (insL ds.1 k 0))) row) ⟨f.1, f.2, w, trivial⟩
    refine dd (r := 1) (nn := 7) (st' := ⟨.osl 1 0 (insL ds.1 k 0).length 2, st.mT, st.q, .cells false (pr (insL ds.1 k 0)), st.oT, st.oQ⟩) (ds' := (insL ds.1 k 0, ds.2.1, ds.2.2)) (a := (1, 0)) ⟨LO.mk' (insL_ne _ _ _), inv.t, inv.q⟩ ⟨.inr (.inl rfl), .inl rfl, inv.s.2.1, inv.t.2.1, .inr inv.q.2.1, freePr _, phFree, fun h => absurd rfl h, fun _ => rfl, fun _ => rfl, fun _ => rfl, fun h => by omega, fun h => by omega⟩ (by show (if hasL ds.1 k = true then _ else _) = _; rw [hh]; rfl) (Sound.ghost phO run) rfl rfl rfl ?_
    rw [inv.t.rn _ rfl, inv.q.rn _ rfl, insL_len]
    rfl
theorem doD1 (inv : InvD ds st) : DoesD cp oW row ds st 1 k v := by
  cases hh : hasL ds.1 k with
  | false =>
    have f := find2 (cp := cp) (oW := oW) (row := row) (k := k) hS hT inv [] []
    rw [hh] at f
    exact dd_same inv (a := (2, 0)) (by show (if hasL ds.1 k = true then _ else _) = _; rw [hh]; rfl) (runX_sound mixed none_sound (e1n st.mS st.mT st.q 0 0 (posL ds.1 k) (posL ds.2.1 k) 0 (hasL ds.2.1 k) k v 0 st.oS st.oT st.oQ oW cp .dead row) ⟨f.1, f.2, trivial⟩) rfl
  | true =>
    have f := find2 (cp := cp) (oW := oW) (row := row) (k := k) hS hT inv [] []
    rw [hh] at f
    have w := withoutC hS (hasL_lt hh).1 (s := ⟨⟨[(6, cp), (5, oW), (4, .cells false [st.mS, st.mT, st.q]), (3, st.oQ), (2, st.oT), (1, st.oS), (0, .cells true row)], 7, none, []⟩, 7⟩) (b := 1) (fun h => congrArg some (inv.s.2.2 h))
    rw [← inv.s.1] at w
    rcases w with ⟨w1, w2⟩ | ⟨w1, w2⟩
    · have run := runX_sound mixed none_sound (e1o st.mS st.mT st.q 0 (delL ds.1 k).length (posL ds.1 k) (posL ds.2.1 k) 0 (hasL ds.2.1 k) k v 0 st.oS st.oT st.oQ oW cp (.cells false (pr (delL ds.1 k))) row) ⟨f.1, f.2, w2, trivial⟩
      refine dd (r := 1) (nn := 7) (st' := ⟨.osl 1 0 (delL ds.1 k).length 2, st.mT, st.q, .cells false (pr (delL ds.1 k)), st.oT, st.oQ⟩) (ds' := (delL ds.1 k, ds.2.1, ds.2.2)) (a := (1, 0)) ⟨LO.mk' w1, inv.t, inv.q⟩ ⟨.inr (.inl rfl), .inl rfl, inv.s.2.1, inv.t.2.1, .inr inv.q.2.1, freePr _, phFree, fun h => absurd rfl h, fun _ => rfl, fun _ => rfl, fun _ => rfl, fun h => by omega, fun h => by omega⟩ (by show (if hasL ds.1 k = true then _ else _) = _; rw [hh]; rfl) (Sound.ghost phO run) rfl rfl rfl ?_
      rw [inv.t.rn _ rfl, inv.q.rn _ rfl]
      rfl
    · have run := runX_sound mixed none_sound (e1e st.mS st.mT st.q 0 0 (posL ds.1 k) (posL ds.2.1 k) 0 (hasL ds.2.1 k) k v 0 st.oS st.oT st.oQ oW cp .dead row) ⟨f.1, f.2, w2, trivial⟩
      refine dd (r := 0) (nn := 7) (st' := ⟨.nilSlice, st.mT, st.q, st.oS, st.oT, st.oQ⟩) (ds' := (delL ds.1 k, ds.2.1, ds.2.2)) (a := (1, 0)) ⟨by rw [show delL ds.1 k = [] from w1]; exact LO.nil inv.s.2.1, inv.t, inv.q⟩ ⟨.inl rfl, .inl rfl, inv.s.2.1, inv.t.2.1, .inr inv.q.2.1, phFree, phFree, fun _ => rfl, fun _ => rfl, fun _ => rfl, fun h => by omega, fun h => by omega, fun h => by omega⟩ (by show (if hasL ds.1 k = true then _ else _) = _; rw [hh]; rfl) (Sound.ghost phO (Sound.ghost phO run)) rfl rfl rfl ?_
      rw [moved0, ren_id, ren_id, ren_id]
theorem doD5 (inv : InvD ds st) : DoesD cp oW row ds st 5 k v := by
  cases hh : hasL ds.2.1 k with
  | true =>
    have f := find2 (cp := cp) (oW := oW) (row := row) (k := k) hS hT inv [] []
    rw [hh] at f
    exact dd_same inv (a := (2, 0)) (by show (if hasL ds.2.1 k = true then _ else _) = _; rw [hh]; rfl) (runX_sound mixed none_sound (e5y st.mS st.mT st.q 0 0 (posL ds.1 k) (posL ds.2.1 k) 0 (hasL ds.1 k) k v 0 st.oS st.oT st.oQ oW cp .dead row) ⟨f.1, f.2, trivial⟩) rfl
  | false =>
    have f := find2 (cp := cp) (oW := oW) (row := row) (k := k) hS hT inv [] []
    rw [hh] at f
    have w := withC hT (k, v) (posL_le ds.2.1 k) (s := ⟨⟨[(6, cp), (5, oW), (4, .cells false [st.mS, st.mT, st.q]), (3, st.oQ), (2, st.oT), (1, st.oS), (0, .cells true row)], 7, none, []⟩, 7⟩) (b := 2) (fun h => congrArg some (inv.t.2.2 h))
    rw [← inv.t.1] at w
    have run := runX_sound mixed none_sound (e5n st.mS st.mT st.q 0 (ds.2.1.length + 1) (posL ds.1 k) (posL ds.2.1 k) 0 (hasL ds.1 k) k v 0 st.oS st.oT st.oQ oW cp (.cells false (pr (insL ds.2.1 k v))) row) ⟨f.1, f.2, w, trivial⟩
    refine dd (r := 2) (nn := 7) (st' := ⟨st.mS, .osl 2 0 (insL ds.2.1 k v).length 2, st.q, st.oS, .cells false (pr (insL ds.2.1 k v)), st.oQ⟩) (ds' := (ds.1, insL ds.2.1 k v, ds.2.2)) (a := (1, 0)) ⟨inv.s, LO.mk' (insL_ne _ _ _), inv.q⟩ ⟨.inr (.inr (.inl rfl)), .inl rfl, inv.s.2.1, inv.t.2.1, .inr inv.q.2.1, freePr _, phFree, fun _ => rfl, fun h => absurd rfl h, fun _ => rfl, fun h => by omega, fun _ => rfl, fun h => by omega⟩ (by show (if hasL ds.2.1 k = true then _ else _) = _; rw [hh]; rfl) (Sound.ghost phO run) rfl rfl rfl ?_
    rw [inv.s.rn _ rfl, inv.q.rn _ rfl, insL_len]
    rfl
theorem doD6 (inv : InvD ds st) : DoesD cp oW row ds st 6 k v := by
  cases hh : hasL ds.2.1 k with
  | false =>
    have f := find2 (cp := cp) (oW := oW) (row := row) (k := k) hS hT inv [] []
    rw [hh] at f
    exact dd_same inv (a := (2, 0)) (by show (if hasL ds.2.1 k = true then _ else _) = _; rw [hh]; rfl) (runX_sound mixed none_sound (e6n st.mS st.mT st.q 0 0 (posL ds.1 k) (posL ds.2.1 k) 0 (hasL ds.1 k) k v 0 st.oS st.oT st.oQ oW cp .dead row) ⟨f.1, f.2, trivial⟩) rfl
  | true =>
    have f := find2 (cp := cp) (oW := oW) (row := row) (k := k) hS hT inv [] []
    rw [hh] at f
    have w := withoutC hT (hasL_lt hh).1 (s := ⟨⟨[(6, cp), (5, oW), (4, .cells false [st.mS, st.mT, st.q]), (3, st.oQ), (2, st.oT), (1, st.oS), (0, .cells true row)], 7, none, []⟩, 7⟩) (b := 2) (fun h => congrArg some (inv.t.2.2 h))
    rw [← inv.t.1] at w
    rcases w with ⟨w1, w2⟩ | ⟨w1, w2⟩
    · have run := runX_sound mixed none_sound (e6o st.mS st.mT st.q 0 (delL ds.2.1 k).length (posL ds.1 k) (posL ds.2.1 k) 0 (hasL ds.1 k) k v 0 st.oS st.oT st.oQ oW cp (.cells false (pr (delL ds.2.1 k))) row) ⟨f.1, f.2, w2, trivial⟩
      refine dd (r := 2) (nn := 7) (st' := ⟨st.mS, .osl 2 0 (delL ds.2.1 k).length 2, st.q, st.oS, .cells false (pr (delL ds.2.1 k)), st.oQ⟩) (ds' := (ds.1, delL ds.2.1 k, ds.2.2)) (a := (1, 0)) ⟨inv.s, LO.mk' w1, inv.q⟩ ⟨.inr (.inr (.inl rfl)), .inl rfl, inv.s.2.1, inv.t.2.1, .inr inv.q.2.1, freePr _, phFree, fun _ => rfl, fun h => absurd rfl h, fun _ => rfl, fun h => by omega, fun _ => rfl, fun h => by omega⟩ (by show (if hasL ds.2.1 k = true then _ else _) = _; rw [hh]; rfl) (Sound.ghost phO run) rfl rfl rfl ?_
      rw [inv.s.rn _ rfl, inv.q.rn _ rfl]
      rfl
    · have run := runX_sound mixed none_sound (e6e st.mS st.mT st.q 0 0 (posL ds.1 k) (posL ds.2.1 k) 0 (hasL ds.1 k) k v 0 st.oS st.oT st.oQ oW cp .dead row) ⟨f.1, f.2, w2, trivial⟩
      refine dd (r := 0) (nn := 7) (st' := ⟨st.mS, .nilSlice, st.q, st.oS, st.oT, st.oQ⟩) (ds' := (ds.1, delL ds.2.1 k, ds.2.2)) (a := (1, 0)) ⟨inv.s, by rw [show delL ds.2.1 k = [] from w1]; exact LO.nil inv.t.2.1, inv.q⟩ ⟨.inl rfl, .inl rfl, inv.s.2.1, inv.t.2.1, .inr inv.q.2.1, phFree, phFree, fun _ => rfl, fun _ => rfl, fun _ => rfl, fun h => by omega, fun h => by omega, fun h => by omega⟩ (by show (if hasL ds.2.1 k = true then _ else _) = _; rw [hh]; rfl) (Sound.ghost phO (Sound.ghost phO run)) rfl rfl rfl ?_
      rw [moved0, ren_id, ren_id, ren_id]
theorem doD2 (inv : InvD ds st) : DoesD cp oW row ds st 2 k v := by
  have f := find2 (cp := cp) (oW := oW) (row := row) (k := k) hS hT inv [] []
  cases hh : hasL ds.1 k with
  | true =>
    rw [hh] at f
    exact dd_same inv (a := (1, 0)) (by show ((if hasL ds.1 k = true then _ else _, _), _) = _; rw [hh]; rfl) (runX_sound mixed none_sound (e2y st.mS st.mT st.q 0 0 (posL ds.1 k) (posL ds.2.1 k) 0 (hasL ds.2.1 k) k v 0 st.oS st.oT st.oQ oW cp .dead row) ⟨f.1, f.2, trivial⟩) rfl
  | false =>
    rw [hh] at f
    exact dd_same inv (a := (2, 0)) (by show ((if hasL ds.1 k = true then _ else _, _), _) = _; rw [hh]; rfl) (runX_sound mixed none_sound (e2n st.mS st.mT st.q 0 0 (posL ds.1 k) (posL ds.2.1 k) 0 (hasL ds.2.1 k) k v 0 st.oS st.oT st.oQ oW cp .dead row) ⟨f.1, f.2, trivial⟩) rfl
theorem doD7 (inv : InvD ds st) : DoesD cp oW row ds st 7 k v := by
  have f := find2 (cp := cp) (oW := oW) (row := row) (k := k) hS hT inv [] []
  cases hh : hasL ds.2.1 k with
  | true =>
    rw [hh] at f
    obtain ⟨h1, p, h2, h3, h4⟩ := hasL_lt hh
    have hne : ds.2.1 ≠ [] := fun e => by rw [e] at h1; simp at h1
    have em : st.mT = .osl 2 0 ds.2.1.length 2 := by rw [inv.t.1]; exact if_neg hne
    have ix := idx_osl (b := 2) t38 s87 h1
    rw [← em] at ix
    exact dd_same inv (a := (1, valL ds.2.1 k)) (by show (if hasL ds.2.1 k = true then _ else _) = _; rw [hh]; rfl) (runX_sound mixed none_sound (e7y st.mS st.mT st.q 0 0 (posL ds.1 k) (posL ds.2.1 k) (posL ds.2.1 k * 2) (hasL ds.1 k) k v (valL ds.2.1 k) st.oS st.oT st.oQ oW cp .dead row) ⟨f.1, f.2, ix, by rw [← h4]; exact ld_elt h2 _ (congrArg some (inv.t.2.2 hne)), trivial⟩) rfl
  | false =>
    rw [hh] at f
    exact dd_same inv (a := (2, 0)) (by show (if hasL ds.2.1 k = true then _ else _) = _; rw [hh]; rfl) (runX_sound mixed none_sound (e7n st.mS st.mT st.q 0 0 (posL ds.1 k) (posL ds.2.1 k) 0 (hasL ds.1 k) k v 0 st.oS st.oT st.oQ oW cp .dead row) ⟨f.1, f.2, trivial⟩) rfl
theorem doD8 (inv : InvD ds st) (ho : 8 ≤ op) : DoesD cp oW row ds st op k v := by
  have f := find2 (cp := cp) (oW := oW) (row := row) (k := k) hS hT inv [] []
  obtain ⟨m, rfl⟩ : ∃ m, op = m + 8 := ⟨op - 8, by omega⟩
  have q : ∀ j : Nat, j < 8 → (Qst.val (some (AV.bool (Int.ofNat (m + 8) == Int.ofNat j))) (AV.bool false)).ok Try.prog := fun j hj => bq (by
    simp only [beq_eq_false_iff_ne, ne_eq, Int.ofNat_eq_natCast]
    omega)
  exact dd_same inv (a := (0, 0)) rfl (runX_sound mixed none_sound (e8 st.mS st.mT st.q (m + 8) 0 (posL ds.1 k) (posL ds.2.1 k) 0 (hasL ds.1 k) (hasL ds.2.1 k) k v 0 st.oS st.oT st.oQ oW cp .dead row) ⟨f.1, f.2, q 0 (by decide), q 1 (by decide), q 2 (by decide), q 3 (by decide), q 4 (by decide), q 5 (by decide), q 6 (by decide), q 7 (by decide), trivial⟩) rfl
include hQ
theorem doD3 (inv : InvD ds st) : DoesD cp oW row ds st 3 k v := by
  have f := find2 (cp := cp) (oW := oW) (row := row) (k := k) hS hT inv [] []
  by_cases hne : ds.2.2 = []
  · have eq : st.q = .nilSlice := by rw [inv.q.1]; exact if_pos hne
    rw [eq] at f
    have run := runX_sound mixed none_sound (e3n st.mS st.mT st.q 0 0 (posL ds.1 k) (posL ds.2.1 k) 0 (hasL ds.1 k) (hasL ds.2.1 k) k v 0 st.oS st.oT st.oQ oW cp .dead row) ⟨f.1, f.2, trivial⟩
    rw [← eq] at run
    refine dd (r := 3) (nn := 8) (st' := ⟨st.mS, st.mT, .osl 3 0 (ds.2.2 ++ [v]).length 1, st.oS, st.oT, .cells false (uc (ds.2.2 ++ [v]))⟩) (ds' := (ds.1, ds.2.1, ds.2.2 ++ [v])) (a := (1, 0)) (xA := .cells false (uc [v])) (xB := .cells false (uc [v])) ⟨inv.s, inv.t, QD.mk' (by simp)⟩ ⟨.inr (.inr (.inr rfl)), .inr rfl, inv.s.2.1, inv.t.2.1, .inr inv.q.2.1, freeUc _, freeUc _, fun _ => rfl, fun _ => rfl, fun h => absurd rfl h, fun h => by omega, fun h => by omega, fun _ => by rw [hne]; rfl⟩ rfl run rfl rfl rfl ?_
    rw [inv.s.rn _ rfl, inv.t.rn _ rfl, hne]
    rfl
  · have eq : st.q = .osl 3 0 ds.2.2.length 1 := by rw [inv.q.1]; exact if_neg hne
    have eo := inv.q.2.2 hne
    rw [eq, eo] at f
    have ap := app_off (s := ⟨⟨[(7, .cells false [.int .u64 v]), (6, cp), (5, oW), (4, .cells false [st.mS, st.mT, .osl 3 0 ds.2.2.length 1]), (3, .cells false (uc ds.2.2)), (2, st.oT), (1, st.oS), (0, .cells true row)], 8, none, []⟩, 8⟩) (b := 3) (b2 := 7) (c2 := 1) (o := 0) (n := ds.2.2.length) (Q := ds.2.2) (v := v) rfl (by omega) rfl (by omega)
    rw [List.drop_zero] at ap
    have run := runX_sound mixed none_sound (e3s st.mS st.mT st.q 0 ds.2.2.length (posL ds.1 k) (posL ds.2.1 k) 0 (hasL ds.1 k) (hasL ds.2.1 k) k v 0 st.oS st.oT (.cells false (uc ds.2.2)) oW cp (.cells false (uc (ds.2.2 ++ [v]))) row) ⟨f.1, f.2, ap, trivial⟩
    rw [← eq, ← eo] at run
    refine dd (r := 3) (nn := 8) (st' := ⟨st.mS, st.mT, .osl 3 0 (ds.2.2 ++ [v]).length 1, st.oS, st.oT, .cells false (uc (ds.2.2 ++ [v]))⟩) (ds' := (ds.1, ds.2.1, ds.2.2 ++ [v])) (a := (1, 0)) (xA := .cells false (uc [v])) (xB := .cells false (uc (ds.2.2 ++ [v]))) ⟨inv.s, inv.t, QD.mk' (by simp)⟩ ⟨.inr (.inr (.inr rfl)), .inr rfl, inv.s.2.1, inv.t.2.1, .inl rfl, freeUc _, freeUc _, fun _ => rfl, fun _ => rfl, fun h => absurd rfl h, fun h => by omega, fun h => by omega, fun _ => rfl⟩ rfl run rfl rfl rfl ?_
    rw [inv.s.rn _ rfl, inv.t.rn _ rfl, List.length_append]
    rfl
theorem doD4 (inv : InvD ds st) : DoesD cp oW row ds st 4 k v := by
  have f := find2 (cp := cp) (oW := oW) (row := row) (k := k) hS hT inv [] []
  cases hq : ds.2.2 with
  | nil =>
    have eq : st.q = .nilSlice := by rw [inv.q.1]; exact if_pos hq
    rw [eq] at f
    refine dd_same inv (a := (2, 0)) (by show popD ds = _; unfold popD; rw [hq]) (by rw [eq]; exact runX_sound mixed none_sound (e4n st.mS st.mT st.q 0 0 (posL ds.1 k) (posL ds.2.1 k) 0 (hasL ds.1 k) (hasL ds.2.1 k) k v 0 st.oS st.oT st.oQ oW cp .dead row) ⟨f.1, f.2, trivial⟩) (by rw [eq]; rfl)
  | cons x Q =>
    have hne : ds.2.2 ≠ [] := by rw [hq]; simp
    have eq : st.q = .osl 3 0 (Q.length + 1) 1 := by rw [inv.q.1, hq]; rfl
    have eo := inv.q.2.2 hne
    rw [hq] at eo
    rw [eq, eo] at f
    have st4 : stepD ds 4 k v = ((1, x), (ds.1, ds.2.1, Q)) := by show popD ds = _; unfold popD; rw [hq]
    have q1 : (Qst.val (some (AV.bool (Int.ofNat (Q.length + 1) == Int.ofNat 0))) (AV.bool false)).ok Try.prog := bq (by simp; omega)
    have q2 : (Qst.idx 30 (.osl 3 0 (Q.length + 1) 1) (.int .i64 (Int.ofNat 0)) (.ptr 3 0)).ok Try.prog := idx_osl t30 s22 (by omega)
    have q3 : (Qst.sli 30 (.osl 3 0 (Q.length + 1) 1) (some (.int .i64 (Int.ofNat 1))) none none (.osl 3 1 Q.length 1)).ok Try.prog := sli_from t30 s22 (show 1 ≤ Q.length + 1 by omega)
    have ones : ∀ L : List Int, (uc L).all AV.one = true := fun L => by simp [uc, AV.one]
    have fst : ∀ {s : AS}, s.get 3 = some (.cells false (uc (x :: Q))) → firstA s 1 Q.length (.osl 3 1 Q.length 1) = some (uc Q) := fun h => by
      simp only [firstA, readA, h]
      show takeN (Q.length * 1) (uc Q) = _
      exact takeN_all (by simp [uc])
    by_cases hQ0 : Q = []
    · subst hQ0
      have run := runX_sound mixed none_sound (e4e st.mS st.mT st.q 0 1 (posL ds.1 k) (posL ds.2.1 k) 0 (hasL ds.1 k) (hasL ds.2.1 k) k v x st.oS st.oT (.cells false (uc [x])) oW cp .dead row) ⟨f.1, f.2, q1, q2, q_ld (Q := [x]) rfl, q3, app_n0 r30 rfl (fst rfl) rfl rfl, trivial⟩
      have eq : st.q = .osl 3 0 1 1 := eq
      rw [← eq, ← eo] at run
      refine dd (r := 0) (nn := 7) (st' := ⟨st.mS, st.mT, .nilSlice, st.oS, st.oT, st.oQ⟩) (ds' := (ds.1, ds.2.1, [])) (a := (1, x)) ⟨inv.s, inv.t, ⟨rfl, inv.q.2.1, fun h => absurd rfl h⟩⟩ ⟨.inl rfl, .inl rfl, inv.s.2.1, inv.t.2.1, .inr inv.q.2.1, phFree, phFree, fun _ => rfl, fun _ => rfl, fun _ => rfl, fun h => by omega, fun h => by omega, fun h => by omega⟩ st4 (Sound.ghost phO (Sound.ghost phO run)) rfl rfl rfl ?_
      rw [moved0, ren_id, ren_id, ren_id]
    · have run := runX_sound mixed none_sound (e4o st.mS st.mT st.q 0 (Q.length + 1) (posL ds.1 k) (posL ds.2.1 k) Q.length (hasL ds.1 k) (hasL ds.2.1 k) k v x st.oS st.oT (.cells false (uc (x :: Q))) oW cp (.cells false (uc Q)) row) ⟨f.1, f.2, q1, q2, q_ld (Q := x :: Q) rfl, q3, app_nx r30 rfl (fst rfl) (ones _) (fun e => hQ0 (List.eq_nil_of_length_eq_zero e)) (by rw [hq] at hQ; simp at hQ; omega), trivial⟩
      rw [← eq, ← eo] at run
      refine dd (r := 3) (nn := 7) (st' := ⟨st.mS, st.mT, .osl 3 0 Q.length 1, st.oS, st.oT, .cells false (uc Q)⟩) (ds' := (ds.1, ds.2.1, Q)) (a := (1, x)) (xA := .cells false (uc Q)) (xB := phO) ⟨inv.s, inv.t, QD.mk' hQ0⟩ ⟨.inr (.inr (.inr rfl)), .inl rfl, inv.s.2.1, inv.t.2.1, .inr inv.q.2.1, freeUc _, phFree, fun _ => rfl, fun _ => rfl, fun h => absurd rfl h, fun h => by omega, fun h => by omega, fun _ => rfl⟩ st4 (Sound.ghost phO run) rfl rfl rfl ?_
      rw [inv.s.rn _ rfl, inv.t.rn _ rfl]
      rfl
/-- Each op does what the plain one does. -/
theorem doD (inv : InvD ds st) : DoesD cp oW row ds st op k v := by
  have c : op = 0 ∨ op = 1 ∨ op = 2 ∨ op = 3 ∨ op = 4 ∨ op = 5 ∨ op = 6 ∨ op = 7 ∨ 8 ≤ op := by omega
  rcases c with rfl | rfl | rfl | rfl | rfl | rfl | rfl | rfl | h
  · exact doD0 hS hT inv
  · exact doD1 hS hT inv
  · exact doD2 hS hT inv
  · exact doD3 hS hT hQ inv
  · exact doD4 hS hT hQ inv
  · exact doD5 hS hT inv
  · exact doD6 hS hT inv
  · exact doD7 hS hT inv
  · exact doD8 hS hT inv h
end
end Go.Proofs.Ythooafgfpnedhaa.specsJudge
