/- The loop, by induction; what holds in it. Conditions: those that each theorem names, and no others. -/
import Derived.Test.YthooafgfpnedhaaApart6
namespace Go.Proofs.Ythooafgfpnedhaa.specsApart
open Go Go.Mini
/-! ### the loop, and what holds in it -/
def qv : Option (List Int × Nat) → List Int
  | none => []
  | some z => z.1.drop z.2
structure PL (S T : Option (List (Int × Int))) (Q : Option (List Int × Nat)) (I O : Option (List Int)) (cnt : Nat) : Prop where
  non : Q = none ↔ I = none
  fifo : I.getD [] = O.getD [] ++ qv Q
  short : (I.getD []).length ≤ cnt
  room : ∀ z, Q = some z → z.1.length ≤ (I.getD []).length
  nds : ((S.getD []).map (·.1)).Nodup
  ndt : ((T.getD []).map (·.1)).Nodup
theorem getM_none {n : Int} : ∀ {es : List (Int × Int)}, getM es n = none ↔ n ∉ es.map (·.1)
  | [] => by simp [getM]
  | x :: l => by
    have ih := getM_none (n := n) (es := l)
    by_cases h : n = x.1
    · simp [getM, h]
    · simp [getM, h, ih]
theorem keys_put {n v : Int} : ∀ {es : List (Int × Int)}, getM es n = none → (putM es n v).map (·.1) = es.map (·.1) ++ [n]
  | [], _ => rfl
  | x :: l, h => by
    by_cases hn : n = x.1
    · simp [getM, hn] at h
    · simp only [getM, if_neg hn] at h
      simp only [putM, if_neg hn, List.map_cons, keys_put h, List.cons_append]
theorem nd_put {n v : Int} {es : List (Int × Int)} (h : (es.map (·.1)).Nodup) (hn : getM es n = none) : ((putM es n v).map (·.1)).Nodup := by
  rw [keys_put hn, List.nodup_append]
  refine ⟨h, by simp, fun a ha b hb => ?_⟩
  simp only [List.mem_singleton] at hb
  subst hb
  intro he
  subst he
  exact getM_none.1 hn ha
theorem keys_del {n : Int} : ∀ es : List (Int × Int), (delM es n).map (·.1) = (es.map (·.1)).erase n
  | [] => rfl
  | x :: l => by
    by_cases hn : n = x.1
    · simp [delM, hn]
    · have : ¬ x.1 = n := fun h => hn h.symm
      simp [delM, hn, keys_del l, this]
theorem nd_del {n : Int} {es : List (Int × Int)} (h : (es.map (·.1)).Nodup) : ((delM es n).map (·.1)).Nodup := by
  rw [keys_del]
  exact h.erase n
theorem del_gone {n : Int} {es : List (Int × Int)} (h : (es.map (·.1)).Nodup) : getM (delM es n) n = none := by
  rw [getM_none, keys_del, h.mem_erase_iff]
  simp
theorem opcase {a : Int} (h : 0 ≤ a) : ∃ r : Nat, r < 8 ∧ a.tmod (Int.ofNat 8) = Int.ofNat r := by
  refine ⟨(a % 8).toNat, by omega, ?_⟩
  rw [show (Int.ofNat 8) = (8 : Int) from rfl, Int.tmod_eq_emod_of_nonneg h]
  simp only [Int.ofNat_eq_natCast]
  omega
section
variable {x : AV} {n : Nat} {row : List AV} {f : Nat → Int × Int × Int} (W : Rw x n row f)
include W
theorem step_all {i : Nat} (hi : i < n) {S T : Option (List (Int × Int))} {Q : Option (List Int × Nat)} {I O : Option (List Int)} {st : St} (inv : Inv S T Q I O st) (pl : PL S T Q I O i) :
    ∃ S' T' Q' I' O' st', Inv S' T' Q' I' O' st' ∧ PL S' T' Q' I' O' (i + 1) ∧ Go.Mini.Good Try.prog [(0, row)] (CA st row) ft (TA x st.iv st.ov i) (loopAt Try.prog 4 0) .normal (TA x st'.iv st'.ov (i + 1)) (CA st' row) ft := by
  obtain ⟨r, hr, hop⟩ := opcase (W.op i hi)
  have hsm := W.small
  have up : PL S T Q I O (i + 1) := ⟨pl.non, pl.fifo, by have := pl.short; omega, pl.room, pl.nds, pl.ndt⟩
  have case0 : r = 0 ∨ r = 1 ∨ r = 2 ∨ r = 3 ∨ r = 4 ∨ r = 5 ∨ r = 6 ∨ r = 7 := by omega
  rcases case0 with rfl | rfl | rfl | rfl | rfl | rfl | rfl | rfl
  · cases S with
    | none =>
      obtain ⟨st', h1, h2⟩ := gb0n W hi inv hop
      exact ⟨_, _, _, _, _, st', h1, ⟨up.non, up.fifo, up.short, up.room, by simp, up.ndt⟩, h2⟩
    | some es =>
      cases hx : getM es (f i).2.1 with
      | none =>
        obtain ⟨st', h1, h2⟩ := gb0a W hi inv hop hx
        exact ⟨_, _, _, _, _, st', h1, ⟨up.non, up.fifo, up.short, up.room, nd_put up.nds hx, up.ndt⟩, h2⟩
      | some y =>
        obtain ⟨st', h1, h2⟩ := gb0y W hi inv hop hx
        exact ⟨_, _, _, _, _, st', h1, up, h2⟩
  · cases hx : getM (S.getD []) (f i).2.1 with
    | none =>
      obtain ⟨st', h1, h2⟩ := gb1a W hi inv hop hx
      exact ⟨_, _, _, _, _, st', h1, up, h2⟩
    | some y =>
      cases S with
      | none => cases hx
      | some es =>
        obtain ⟨st', h1, h2⟩ := gb1y W hi inv hop hx (del_gone up.nds)
        exact ⟨_, _, _, _, _, st', h1, ⟨up.non, up.fifo, up.short, up.room, nd_del up.nds, up.ndt⟩, h2⟩
  · cases hx : getM (S.getD []) (f i).2.1 with
    | none =>
      obtain ⟨st', h1, h2⟩ := gb2a W hi inv hop hx
      exact ⟨_, _, _, _, _, st', h1, up, h2⟩
    | some y =>
      obtain ⟨st', h1, h2⟩ := gb2y W hi inv hop (by rw [hx]; rfl)
      exact ⟨_, _, _, _, _, st', h1, up, h2⟩
  · cases Q with
    | none =>
      have hI : I = none := pl.non.1 rfl
      subst hI
      obtain ⟨st', h1, h2⟩ := gb3n W hi inv hop
      refine ⟨_, _, _, _, _, st', h1, ⟨by simp, ?_, by simp, fun z hz => ?_, up.nds, up.ndt⟩, h2⟩
      · have := pl.fifo
        simp only [qv, Option.getD_none, List.append_nil] at this
        simp [qv, ← this]
      · simp only [Option.some.injEq] at hz
        subst hz
        simp
    | some z =>
      obtain ⟨R, kk⟩ := z
      cases hI : I with
      | none => exact absurd (pl.non.2 hI) (by simp)
      | some L =>
        subst hI
        have hsh := pl.short
        have hro := pl.room _ rfl
        simp only [Option.getD_some] at hsh hro
        obtain ⟨st', h1, h2⟩ := gb3s W hi inv hop (by omega) (by omega)
        refine ⟨_, _, _, _, _, st', h1, ⟨by simp, ?_, by simp; omega, fun z hz => ?_, up.nds, up.ndt⟩, h2⟩
        · have := pl.fifo
          simp only [qv, Option.getD_some] at this
          simp [qv, this]
        · simp only [Option.some.injEq] at hz
          subst hz
          simp
          omega
  · by_cases hx : ∀ z, Q = some z → z.1.length = z.2
    · obtain ⟨st', h1, h2⟩ := gb4e W hi inv hop hx
      exact ⟨_, _, _, _, _, st', h1, up, h2⟩
    · cases Q with
      | none => exact absurd (fun z hz => by cases hz) hx
      | some z =>
        obtain ⟨R, kk⟩ := z
        have hq := inv.qq
        have hkk : kk ≤ R.length := hq.2.2
        have hlt : kk < R.length := by
          by_cases h : kk < R.length
          · exact h
          · exfalso
            refine hx fun z hz => ?_
            simp only [Option.some.injEq] at hz
            subst hz
            show R.length = kk
            omega
        have hget : R[kk]? = some R[kk] := List.getElem?_eq_getElem hlt
        have hdrop : R.drop kk = R[kk] :: R.drop (kk + 1) := List.drop_eq_getElem_cons hlt
        cases O with
        | none =>
          obtain ⟨st', h1, h2⟩ := gb4n W hi inv hop hget hlt
          refine ⟨_, _, _, _, _, st', h1, ⟨⟨by simp, fun h => absurd (pl.non.2 h) (by simp)⟩, ?_, up.short, fun z hz => ?_, up.nds, up.ndt⟩, h2⟩
          · have := pl.fifo
            simp only [qv, Option.getD_none, List.nil_append, hdrop] at this
            simp [qv, this]
          · simp only [Option.some.injEq] at hz
            subst hz
            exact pl.room (R, kk) rfl
        | some L =>
          have hsh := pl.short
          have hL : L.length ≤ (I.getD []).length := by rw [pl.fifo]; simp
          obtain ⟨st', h1, h2⟩ := gb4s W hi inv hop hget hlt (by omega)
          refine ⟨_, _, _, _, _, st', h1, ⟨⟨by simp, fun h => absurd (pl.non.2 h) (by simp)⟩, ?_, up.short, fun z hz => ?_, up.nds, up.ndt⟩, h2⟩
          · have := pl.fifo
            simp only [qv, Option.getD_some, hdrop] at this
            simp [qv, this]
          · simp only [Option.some.injEq] at hz
            subst hz
            exact pl.room (R, kk) rfl
  · cases T with
    | none =>
      obtain ⟨st', h1, h2⟩ := gb5n W hi inv hop
      exact ⟨_, _, _, _, _, st', h1, ⟨up.non, up.fifo, up.short, up.room, up.nds, by simp⟩, h2⟩
    | some es =>
      cases hx : getM es (f i).2.1 with
      | none =>
        obtain ⟨st', h1, h2⟩ := gb5a W hi inv hop hx
        exact ⟨_, _, _, _, _, st', h1, ⟨up.non, up.fifo, up.short, up.room, up.nds, nd_put up.ndt hx⟩, h2⟩
      | some y =>
        obtain ⟨st', h1, h2⟩ := gb5y W hi inv hop hx
        exact ⟨_, _, _, _, _, st', h1, up, h2⟩
  · cases hx : getM (T.getD []) (f i).2.1 with
    | none =>
      obtain ⟨st', h1, h2⟩ := gb6a W hi inv hop hx
      exact ⟨_, _, _, _, _, st', h1, up, h2⟩
    | some y =>
      cases T with
      | none => cases hx
      | some es =>
        obtain ⟨st', h1, h2⟩ := gb6y W hi inv hop hx (del_gone up.ndt)
        exact ⟨_, _, _, _, _, st', h1, ⟨up.non, up.fifo, up.short, up.room, up.nds, nd_del up.ndt⟩, h2⟩
  · cases hx : getM (T.getD []) (f i).2.1 with
    | none =>
      obtain ⟨st', h1, h2⟩ := gb7a W hi inv hop hx
      exact ⟨_, _, _, _, _, st', h1, up, h2⟩
    | some y =>
      cases T with
      | none => cases hx
      | some es =>
        obtain ⟨st', h1, h2⟩ := gb7y W hi inv hop hx
        exact ⟨_, _, _, _, _, st', h1, up, h2⟩
omit W in
theorem hCA {st : St} : ∀ b o, (CA st row).get b = some o → o.rw = true → b ∈ ft := by
  intro b o hb hr
  by_cases hf : b ∈ ft
  · exact hf
  · have h0 := only0 (getCA hb) hf
    subst h0
    rw [show (CA st row).get 0 = some (.cells true row) from rfl] at hb
    rw [← Option.some.inj hb] at hr
    cases hr
theorem gend {S T : Option (List (Int × Int))} {Q : Option (List Int × Nat)} {I O : Option (List Int)} {st : St} (inv : Inv S T Q I O st) :
    Go.Mini.Good Try.prog [(0, row)] (CA st row) ft (TA x st.iv st.ov n) (loopAt Try.prog 4 0) (.exit 0) (TA x st.iv st.ov n) (CA st row) ft := by
  have inv2 := inv
  obtain ⟨mS, mT, q, mS0, q1, mT2, iv, ov, oO, oI, oQ1, oT2, oS0, oQ, oT, oS⟩ := st
  have ii : QO (Option.map (fun L => (L, 0)) I) iv 7 oI := inv.i
  have io : QO (Option.map (fun L => (L, 0)) O) ov 8 oO := inv.o
  have run := runX_sound mixed none_sound (b_end x n 0 n 0 0 0 0 0 0 0 0 oS oT oQ oS0 oT2 oQ1 oI oO .dead .dead .dead mS mT q mS0 mT2 q1 iv ov row) ⟨W.len _, lt_q _ _ _ (by simp), trivial⟩
  refine fin run (fun b => b) inv2 rfl rfl rfl rfl rfl rfl (by decide) (by decide) W.nm rfl (by rw [inv2.t2.ren _ rfl]; rfl) (by rw [inv2.q1.ren _ rfl]; rfl) (by rw [inv2.s0.ren _ rfl]; rfl) (by rw [inv2.s.ren _ rfl, inv2.t.ren _ rfl, inv2.qq.ren _ rfl]; rfl) rfl rfl rfl rfl rfl rfl rfl rfl rfl ⟨.inr (.inr ⟨13, by decide, rfl⟩), .inr (.inr ⟨12, by decide, rfl⟩), .inr (.inr ⟨11, by decide, rfl⟩), .inr (.inr ⟨10, by decide, rfl⟩), .inr (.inr ⟨9, by decide, rfl⟩), .inr (.inr ⟨8, by decide, rfl⟩), .inr (.inr ⟨7, by decide, rfl⟩), .inr (.inr ⟨6, by decide, rfl⟩), .inr (.inr ⟨5, by decide, rfl⟩), .inr (.inr ⟨4, by decide, rfl⟩), .inr (.inr ⟨3, by decide, rfl⟩), .inr (.inr ⟨2, by decide, rfl⟩), .inr (.inr ⟨1, by decide, rfl⟩), .inr (.inr ⟨0, by decide, rfl⟩), trivial⟩ rfl (Nat.le_of_ble_eq_true rfl) (fun b h1 h2 => by rw [only0 h1 h2]; rfl) (W.xr _ rfl) W.xn (inv2.i.ren _ rfl) (inv2.o.ren _ rfl) ?_
  unfold TA
  repeat (first | exact rfl | refine ⟨_, _, rfl, ?_, ?_⟩ | exact .inr ⟨rfl, rfl⟩ | exact .inl ⟨rfl, rfl⟩ | exact .inl ⟨W.na.1.symm, W.na.2⟩ | exact see_same _ | exact .inl ⟨ii.na.1.symm, ii.na.2⟩ | exact .inl ⟨io.na.1.symm, io.na.2⟩)
theorem loop_all : ∀ (m i : Nat), n - i = m → i ≤ n → ∀ {S T : Option (List (Int × Int))} {Q : Option (List Int × Nat)} {I O : Option (List Int)} {st : St}, Inv S T Q I O st → PL S T Q I O i →
    ∃ S' T' Q' I' O' st', Inv S' T' Q' I' O' st' ∧ PL S' T' Q' I' O' n ∧ Go.Mini.Good Try.prog [(0, row)] (CA st row) ft (TA x st.iv st.ov i) (.loop (loopAt Try.prog 4 0)) (.exit 0) (TA x st'.iv st'.ov n) (CA st' row) ft := by
  intro m
  induction m with
  | zero =>
    intro i hm hi S T Q I O st inv pl
    have : i = n := by omega
    subst this
    exact ⟨S, T, Q, I, O, st, inv, pl, Good.loop_stop (gend W inv) (by simp)⟩
  | succ m ih =>
    intro i hm hi S T Q I O st inv pl
    obtain ⟨S1, T1, Q1, I1, O1, st1, inv1, pl1, g1⟩ := step_all W (i := i) (by omega) inv pl
    obtain ⟨S2, T2, Q2, I2, O2, st2, inv2, pl2, g2⟩ := ih (i + 1) (by omega) (by omega) inv1 pl1
    exact ⟨S2, T2, Q2, I2, O2, st2, inv2, pl2, Good.loop_next (show 0 < 14 by decide) hCA g1 g2⟩
end
end Go.Proofs.Ythooafgfpnedhaa.specsApart
