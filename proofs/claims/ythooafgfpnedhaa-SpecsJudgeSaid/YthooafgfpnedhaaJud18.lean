/- specs.State.Do has that form. Conditions: those that each theorem names, and no others. -/
import Derived.Test.YthooafgfpnedhaaJud17
namespace Go.Proofs.Ythooafgfpnedhaa.specsJudge
open Go Go.Mini
theorem d8 (op : Nat) (k v : Int) : runX Try.prog none_ 80 9 (.call 9 [.ptr 4 0, .int .u8 (Int.ofNat op), .int .u64 k, .int .u64 v] ⟨⟨[], 0, none, []⟩, 5⟩) [.val 9 1 2 (.tuple [.nilFunc, .bool false])] = some ({ e := .ret, ts := [.tuple [.int .u8 (Int.ofNat 0), .int .u64 (Int.ofNat 0)]], s := ⟨⟨[], 0, some 5, []⟩, 12⟩ }, [], [Qst.lk 76 ⟨⟨[(11, .cells false [.func (Fn.func 51) [] []]), (10, .cells false [.func (Fn.func 50) [] []]), (9, .cells false [.func (Fn.func 47) [] []]), (8, .cells false [.func (Fn.func 45) [] []]), (7, .cells false [.func (Fn.func 43) [] []]), (6, .cells false [.func (Fn.func 41) [] []]), (5, .map [(.int .u8 (Int.ofNat 0), .func (Fn.func 58) [] [.ptr 6 0]), (.int .u8 (Int.ofNat 1), .func (Fn.func 58) [] [.ptr 7 0]), (.int .u8 (Int.ofNat 2), .func (Fn.func 58) [] [.ptr 8 0]), (.int .u8 (Int.ofNat 3), .func (Fn.func 58) [] [.ptr 9 0]), (.int .u8 (Int.ofNat 4), .func (Fn.func 48) [] []), (.int .u8 (Int.ofNat 5), .func (Fn.func 58) [] [.ptr 10 0]), (.int .u8 (Int.ofNat 6), .func (Fn.func 58) [] [.ptr 11 0]), (.int .u8 (Int.ofNat 7), .func (Fn.func 52) [] [])] [0, 1, 2, 3, 4, 5, 6, 7] 8)], 7, some 5, []⟩, 12⟩ (.map 5) (.int .u8 (Int.ofNat op)) true (.tuple [.nilFunc, .bool false])]) := by kernel_rfl
section
variable {s : AS} {S T : Option (List (Int × Int))} {Q : Option (List Int × Nat)} {st : S3} {k v : Int} (inv : Inv3 S T Q st) (h4 : s.get 4 = some (.cells false [st.mS, st.mT, st.q])) (h1 : s.get 1 = some st.oS) (h2 : s.get 2 = some st.oT) (h3 : s.get 3 = some st.oQ)
include inv h4 h1 h2 h3
theorem does_Q {op : Nat} {R : List Int} {kk n : Nat} (hQ : Q = some (R, kk)) (hk : kk + 1 ≤ R.length) (hn : n = R.length - (kk + 1)) (hp : (stepP (rep S T Q) op k v).2 = rep S T (some (R, kk + 1))) (h : Sound Try.prog (.call 9 [.ptr 4 0, .int .u8 (Int.ofNat op), .int .u64 k, .int .u64 v] s) ⟨.ret, [.tuple [.int .u8 (Int.ofNat (stepP (rep S T Q) op k v).1.1), .int .u64 (stepP (rep S T Q) op k v).1.2]], s.set 4 (.cells false [st.mS, st.mT, .osl 3 (kk + 1) n 1])⟩) : Does s S T Q op k v := by
  subst hQ
  obtain ⟨q1, q2, q3⟩ := inv.q
  have hq' : QO (some (R, kk + 1)) (.osl 3 (kk + 1) n 1) 3 st.oQ := And.intro (by rw [hn]) (And.intro q2 hk)
  refine ⟨S, T, some (R, kk + 1), ⟨st.mS, st.mT, .osl 3 (kk + 1) n 1, st.oS, st.oT, st.oQ⟩, 0, st.oS, st.oT, st.oQ, phO, ⟨inv.s, inv.t, hq'⟩, hp.symm, Nat.le_succ _, ⟨by omega, .inr inv.s.fr, .inr inv.t.fr, .inr hq'.fr, phFree, fun _ => rfl, fun _ => rfl, fun _ => rfl, fun h => by omega, fun h => by omega, fun h => by omega⟩, toU h4 h1 h2 h3 phO h (setB_keys _ _ _) rfl rfl fun c => ?_⟩
  show _ = ug s [st.mS.ren _, st.mT.ren _, .osl 3 (kk + 1) n 1] _ _ _ c
  rw [inv.s.ren _ rfl, inv.t.ren _ rfl, get_set]
  unfold ug
  by_cases e3 : c = 3
  · subst e3; simp [h3]
  by_cases e2 : c = 2
  · subst e2; simp [h2]
  by_cases e1 : c = 1
  · subst e1; simp [h1]
  by_cases e4 : c = 4
  · subst e4; simp [h4]
  simp [e1, e2, e3, e4]
theorem does_nQ {op : Nat} (hp : (stepP (rep S T Q) op k v).2 = rep S T (some ([v], 0))) (h : Sound Try.prog (.call 9 [.ptr 4 0, .int .u8 (Int.ofNat op), .int .u64 k, .int .u64 v] s) ⟨.ret, [.tuple [.int .u8 (Int.ofNat (stepP (rep S T Q) op k v).1.1), .int .u64 (stepP (rep S T Q) op k v).1.2]], (s.set 4 (.cells false [st.mS, st.mT, .osl s.nx 0 1 1])).push (.cells false [.int .u64 v])⟩) : Does s S T Q op k v := by
  refine ⟨S, T, some ([v], 0), ⟨st.mS, st.mT, .osl 3 0 1 1, st.oS, st.oT, .cells false [.int .u64 v]⟩, 3, st.oS, st.oT, st.oQ, .cells false [.int .u64 v], ⟨inv.s, inv.t, QO.mk (R := [v]) rfl (Nat.zero_le _)⟩, hp.symm, Nat.le_add_left 1 _, ⟨by omega, .inr inv.s.fr, .inr inv.t.fr, .inr inv.q.fr, ⟨rfl, rfl⟩, fun _ => rfl, fun _ => rfl, fun h => absurd rfl h, fun h => by omega, fun h => by omega, fun _ => rfl⟩, toUp h4 h1 h2 h3 h (setB_keys _ _ _) rfl rfl fun c => ?_⟩
  show _ = ug s [st.mS.ren _, st.mT.ren _, .osl s.nx 0 1 1] _ _ _ c
  rw [inv.s.ren _ rfl, inv.t.ren _ rfl, get_set]
  unfold ug
  by_cases e3 : c = 3
  · subst e3; simp [h3]
  by_cases e2 : c = 2
  · subst e2; simp [h2]
  by_cases e1 : c = 1
  · subst e1; simp [h1]
  by_cases e4 : c = 4
  · subst e4; simp [h4]
  simp [e1, e2, e3, e4]
theorem does_pQ {op : Nat} {R : List Int} {kk n : Nat} (hQ : Q = some (R, kk)) (hn : n = R.length - kk + 1) (hp : (stepP (rep S T Q) op k v).2 = rep S T (some (R.drop kk ++ [v], 0))) (h : Sound Try.prog (.call 9 [.ptr 4 0, .int .u8 (Int.ofNat op), .int .u64 k, .int .u64 v] s) ⟨.ret, [.tuple [.int .u8 (Int.ofNat (stepP (rep S T Q) op k v).1.1), .int .u64 (stepP (rep S T Q) op k v).1.2]], ((s.set 4 (.cells false [st.mS, st.mT, .osl s.nx 0 n 1])).set 3 .dead).push (.cells false (uc (R.drop kk ++ [v])))⟩) : Does s S T Q op k v := by
  subst hQ
  refine ⟨S, T, some (R.drop kk ++ [v], 0), ⟨st.mS, st.mT, .osl 3 0 n 1, st.oS, st.oT, .cells false (uc (R.drop kk ++ [v]))⟩, 3, st.oS, st.oT, .dead, .cells false (uc (R.drop kk ++ [v])), ⟨inv.s, inv.t, QO.mk (R := R.drop kk ++ [v]) (by simp [hn]) (Nat.zero_le _)⟩, hp.symm, by simp [qlen], ⟨by omega, .inr inv.s.fr, .inr inv.t.fr, .inl rfl, freeUc _, fun _ => rfl, fun _ => rfl, fun h => absurd rfl h, fun h => by omega, fun h => by omega, fun _ => rfl⟩, toUp h4 h1 h2 h3 h (by show (setB (setB s.h.bs 4 _) 3 _).map (·.1) = _; rw [setB_keys, setB_keys]) rfl rfl fun c => ?_⟩
  show _ = ug s [st.mS.ren _, st.mT.ren _, .osl s.nx 0 n 1] _ _ _ c
  rw [inv.s.ren _ rfl, inv.t.ren _ rfl, get_set, get_set, get_set]
  unfold ug
  by_cases e3 : c = 3
  · subst e3; simp [h3]
  by_cases e2 : c = 2
  · subst e2; simp [h2]
  by_cases e1 : c = 1
  · subst e1; simp [h1]
  by_cases e4 : c = 4
  · subst e4; simp [h4]
  simp [e1, e2, e3, e4]
/-- Each op does what the plain state does. -/
theorem doAll {op : Nat} (hq : qlen Q < 16777000) : Does s S T Q op k v := by
  have is := inv.s
  have it := inv.t
  have iq := inv.q
  have case0 : op = 0 ∨ op = 1 ∨ op = 2 ∨ op = 3 ∨ op = 4 ∨ op = 5 ∨ op = 6 ∨ op = 7 ∨ 8 ≤ op := by omega
  rcases case0 with rfl | rfl | rfl | rfl | rfl | rfl | rfl | rfl | h8
  · cases S with
    | none =>
      obtain ⟨e1, _⟩ := is
      rw [e1] at h4
      refine does_nS (st := st) (w := 0) (bn := [0]) (ck := 1) inv (by rw [e1]; exact h4) h1 h2 h3 rfl (D0n h4 it.mp iq.ql)
    | some es =>
      obtain ⟨e1, bn, ck, e2⟩ := is
      rw [e1] at h4
      rw [e2] at h1
      cases hx : getM es k with
      | none =>
        have ep : putP es k 0 = ((1, 0), putM es k 0) := by simp [putP, hx]
        refine does_S (st := st) (es := putM es k 0) (bn := bn ++ [ck]) (ck := ck + 1) inv (by rw [e1]; exact h4) (by rw [e2]; exact h1) h2 h3 e1 (by show ((putP es k 0).2, T.getD [], qv Q) = _; rw [ep]; rfl) ?_
        show Sound _ _ ⟨_, [.tuple [.int .u8 (Int.ofNat (putP es k 0).1.1), .int .u64 (putP es k 0).1.2]], _⟩
        rw [ep]
        exact D0a h4 h1 it.mp iq.ql hx
      | some y =>
        have ep : putP es k 0 = ((2, 0), es) := by simp [putP, hx]
        refine does_same inv (by rw [e1]; exact h4) (by rw [e2]; exact h1) h2 h3 (by show ((putP es k 0).2, T.getD [], qv Q) = _; rw [ep]; rfl) ?_
        show Sound _ _ ⟨_, [.tuple [.int .u8 (Int.ofNat (putP es k 0).1.1), .int .u64 (putP es k 0).1.2]], _⟩
        rw [ep]
        exact D0y h4 h1 it.mp iq.ql hx
  · cases S with
    | none =>
      obtain ⟨e1, _⟩ := is
      refine does_same inv h4 h1 h2 h3 rfl ?_
      rw [e1] at h4
      exact D1n h4 it.mp iq.ql
    | some es =>
      obtain ⟨e1, bn, ck, e2⟩ := is
      rw [e1] at h4
      rw [e2] at h1
      cases hx : getM es k with
      | none =>
        have ep : dropP es k = ((2, 0), es) := by simp [dropP, hx]
        refine does_same inv (by rw [e1]; exact h4) (by rw [e2]; exact h1) h2 h3 (by show ((dropP es k).2, T.getD [], qv Q) = _; rw [ep]; rfl) ?_
        show Sound _ _ ⟨_, [.tuple [.int .u8 (Int.ofNat (dropP es k).1.1), .int .u64 (dropP es k).1.2]], _⟩
        rw [ep]
        exact D1a h4 h1 it.mp iq.ql hx
      | some y =>
        have ep : dropP es k = ((1, 0), delM es k) := by simp [dropP, hx]
        refine does_S (st := st) (es := delM es k) (bn := bn.eraseIdx (posM es k)) (ck := ck) inv (by rw [e1]; exact h4) (by rw [e2]; exact h1) h2 h3 e1 (by show ((dropP es k).2, T.getD [], qv Q) = _; rw [ep]; rfl) ?_
        show Sound _ _ ⟨_, [.tuple [.int .u8 (Int.ofNat (dropP es k).1.1), .int .u64 (dropP es k).1.2]], _⟩
        rw [ep]
        exact D1y h4 h1 it.mp iq.ql hx
  · refine does_same inv h4 h1 h2 h3 rfl ?_
    show Sound _ _ ⟨_, [.tuple [.int .u8 (Int.ofNat (if (getM (S.getD []) k).isSome then 1 else 2)), _]], _⟩
    cases S with
    | none =>
      obtain ⟨e1, _⟩ := is
      rw [e1] at h4
      exact D2n h4 it.mp iq.ql
    | some es =>
      obtain ⟨e1, bn, ck, e2⟩ := is
      rw [e1] at h4
      rw [e2] at h1
      cases hx : getM es k with
      | none =>
        rw [show (getM ((some es).getD []) k).isSome = false from by simp [hx]]
        exact D2a h4 h1 it.mp iq.ql hx
      | some y =>
        rw [show (getM ((some es).getD []) k).isSome = true from by simp [hx]]
        exact D2y h4 h1 it.mp iq.ql hx
  · cases Q with
    | none =>
      obtain ⟨e1, _⟩ := iq
      rw [e1] at h4
      exact does_nQ (st := st) inv (by rw [e1]; exact h4) h1 h2 h3 rfl (D3n h4 is.mp it.mp)
    | some z =>
      obtain ⟨R, kk⟩ := z
      obtain ⟨e1, e2, hkk⟩ := iq
      rw [e1] at h4
      rw [e2] at h3
      have hq : R.length < 16777000 := hq
      exact does_pQ (st := st) (n := R.length - kk + 1) inv (by rw [e1]; exact h4) h1 h2 (by rw [e2]; exact h3) rfl rfl (by simp [stepP, rep, qv]) (D3s h4 h3 is.mp it.mp (by decide) (by omega) (by omega))
  · cases Q with
    | none =>
      obtain ⟨e1, _⟩ := iq
      refine does_same inv h4 h1 h2 h3 rfl ?_
      rw [e1] at h4
      exact D4n h4 is.mp it.mp
    | some z =>
      obtain ⟨R, kk⟩ := z
      have iq' := iq
      obtain ⟨e1, e2, hkk⟩ := iq
      rw [e1] at h4
      rw [e2] at h3
      by_cases hlt : kk < R.length
      · have hd : R.drop kk = R[kk] :: R.drop (kk + 1) := List.drop_eq_getElem_cons hlt
        have es : stepP (rep S T (some (R, kk))) 4 k v = ((1, R[kk]), S.getD [], T.getD [], R.drop (kk + 1)) := by
          show (match R.drop kk with | [] => _ | x :: Q => ((1, x), S.getD [], T.getD [], Q)) = _
          rw [hd]
        refine does_Q (st := st) (R := R) (kk := kk) (n := R.length - kk - 1) inv (by rw [e1]; exact h4) h1 h2 (by rw [e2]; exact h3) rfl hlt (by omega) (by rw [es]; rfl) ?_
        rw [es]
        exact D4s h4 h3 is.mp it.mp (by decide) (by omega) (List.getElem?_eq_getElem hlt)
      · have hd : R.drop kk = [] := List.drop_eq_nil_of_le (by omega)
        have es : stepP (rep S T (some (R, kk))) 4 k v = ((2, 0), rep S T (some (R, kk))) := by
          simp [stepP, rep, qv, hd]
        refine does_same inv (by rw [e1]; exact h4) h1 h2 (by rw [e2]; exact h3) (by rw [es]) ?_
        rw [es]
        rw [show R.length - kk = 0 from by omega] at h4
        exact D4e h4 h3 is.mp it.mp (by decide)
  · cases T with
    | none =>
      obtain ⟨e1, _⟩ := it
      rw [e1] at h4
      refine does_nT (st := st) (w := v) (bn := [0]) (ck := 1) inv (by rw [e1]; exact h4) h1 h2 h3 rfl (D5n h4 is.mp iq.ql)
    | some es =>
      obtain ⟨e1, bn, ck, e2⟩ := it
      rw [e1] at h4
      rw [e2] at h2
      cases hx : getM es k with
      | none =>
        have ep : putP es k v = ((1, 0), putM es k v) := by simp [putP, hx]
        refine does_T (st := st) (es := putM es k v) (bn := bn ++ [ck]) (ck := ck + 1) inv (by rw [e1]; exact h4) h1 (by rw [e2]; exact h2) h3 e1 (by show (S.getD [], (putP es k v).2, qv Q) = _; rw [ep]; rfl) ?_
        show Sound _ _ ⟨_, [.tuple [.int .u8 (Int.ofNat (putP es k v).1.1), .int .u64 (putP es k v).1.2]], _⟩
        rw [ep]
        exact D5a h4 h2 is.mp iq.ql hx
      | some y =>
        have ep : putP es k v = ((2, 0), es) := by simp [putP, hx]
        refine does_same inv (by rw [e1]; exact h4) h1 (by rw [e2]; exact h2) h3 (by show (S.getD [], (putP es k v).2, qv Q) = _; rw [ep]; rfl) ?_
        show Sound _ _ ⟨_, [.tuple [.int .u8 (Int.ofNat (putP es k v).1.1), .int .u64 (putP es k v).1.2]], _⟩
        rw [ep]
        exact D5y h4 h2 is.mp iq.ql hx
  · cases T with
    | none =>
      obtain ⟨e1, _⟩ := it
      refine does_same inv h4 h1 h2 h3 rfl ?_
      rw [e1] at h4
      exact D6n h4 is.mp iq.ql
    | some es =>
      obtain ⟨e1, bn, ck, e2⟩ := it
      rw [e1] at h4
      rw [e2] at h2
      cases hx : getM es k with
      | none =>
        have ep : dropP es k = ((2, 0), es) := by simp [dropP, hx]
        refine does_same inv (by rw [e1]; exact h4) h1 (by rw [e2]; exact h2) h3 (by show (S.getD [], (dropP es k).2, qv Q) = _; rw [ep]; rfl) ?_
        show Sound _ _ ⟨_, [.tuple [.int .u8 (Int.ofNat (dropP es k).1.1), .int .u64 (dropP es k).1.2]], _⟩
        rw [ep]
        exact D6a h4 h2 is.mp iq.ql hx
      | some y =>
        have ep : dropP es k = ((1, 0), delM es k) := by simp [dropP, hx]
        refine does_T (st := st) (es := delM es k) (bn := bn.eraseIdx (posM es k)) (ck := ck) inv (by rw [e1]; exact h4) h1 (by rw [e2]; exact h2) h3 e1 (by show (S.getD [], (dropP es k).2, qv Q) = _; rw [ep]; rfl) ?_
        show Sound _ _ ⟨_, [.tuple [.int .u8 (Int.ofNat (dropP es k).1.1), .int .u64 (dropP es k).1.2]], _⟩
        rw [ep]
        exact D6y h4 h2 is.mp iq.ql hx
  · cases T with
    | none =>
      obtain ⟨e1, _⟩ := it
      refine does_same inv h4 h1 h2 h3 rfl ?_
      rw [e1] at h4
      exact D7n h4 is.mp iq.ql
    | some es =>
      obtain ⟨e1, bn, ck, e2⟩ := it
      rw [e1] at h4
      rw [e2] at h2
      cases hx : getM es k with
      | none =>
        have eg : stepP (rep S (some es) Q) 7 k v = ((2, 0), rep S (some es) Q) := by
          simp [stepP, rep, hx]
        refine does_same inv (by rw [e1]; exact h4) h1 (by rw [e2]; exact h2) h3 (by rw [eg]) ?_
        rw [eg]
        exact D7a h4 h2 is.mp iq.ql hx
      | some y =>
        have eg : stepP (rep S (some es) Q) 7 k v = ((1, y), rep S (some es) Q) := by
          simp [stepP, rep, hx]
        refine does_same inv (by rw [e1]; exact h4) h1 (by rw [e2]; exact h2) h3 (by rw [eg]) ?_
        rw [eg]
        exact D7y h4 h2 is.mp iq.ql hx
  · obtain ⟨m, rfl⟩ : ∃ m, op = m + 8 := ⟨op - 8, by omega⟩
    exact does_same inv h4 h1 h2 h3 rfl (Sound.put (bs0 := []) (runX_sound mixed none_sound (d8 (m + 8) k v) ⟨by show lookupA Try.prog _ 76 (.map 5) (.int .u8 (Int.ofNat (m + 8))) true = some (.tuple [.nilFunc, .bool false]); kernel_rfl, trivial⟩) noG (fun b => b) [] s trivial (fun b hb => by cases hb) List.nodup_nil List.nodup_nil (fun b hb => by cases hb) rfl rfl)
end
end Go.Proofs.Ythooafgfpnedhaa.specsJudge
