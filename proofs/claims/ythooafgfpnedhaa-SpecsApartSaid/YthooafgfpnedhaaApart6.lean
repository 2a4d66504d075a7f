/- The body leads from a canonical state to the next. Conditions: those that each theorem names, and no others. -/
import Derived.Test.YthooafgfpnedhaaApart5
namespace Go.Proofs.Ythooafgfpnedhaa.specsApart
open Go Go.Mini
theorem Sound.to {P : Program} {t : Go.Mini.Task} {e : AExit} {vs : List AV} {s1 s2 : AS} (h : Sound P t ⟨e, vs, s1⟩) (hs : s1 = s2) : Sound P t ⟨e, vs, s2⟩ := hs ▸ h
theorem MO.mk {es : List (Int × Int)} {b : Nat} {bn : List Nat} {ck : Nat} : MO (some es) (.map b) b (.map (mapE .u64 .u64 es) bn ck) := And.intro rfl ⟨bn, ck, rfl⟩
theorem QO.mk {R : List Int} {b k n : Nat} (h : n = R.length - k) (hk : k ≤ R.length) : QO (some (R, k)) (.osl b k n 1) b (.cells false (uc R)) := And.intro (by rw [h]) (And.intro rfl hk)
section
variable {s : AS} {b bm : Nat} {m t q : AV} {S : Option (List (Int × Int))} {o : AObj} {k v : Int}
theorem delC (hb : s.get b = some (.cells false [m, t, q])) (hS : MO S m bm o) (hm : s.get bm = some o) (ht : Mp t) (hq : Ql q) (hx : getM (S.getD []) k = none) :
    Sound Try.prog (.call 9 [.ptr b 0, .int .u8 (Int.ofNat 1), .int .u64 k, .int .u64 v] s) ⟨.ret, [.tuple [.int .u8 (Int.ofNat 2), .int .u64 (Int.ofNat 0)]], s⟩ := by
  cases S with
  | none =>
    obtain ⟨rfl, _⟩ := hS
    exact D1n hb ht hq
  | some es =>
    obtain ⟨rfl, bn, ck, rfl⟩ := hS
    exact D1a hb hm ht hq hx
theorem delT (hb : s.get b = some (.cells false [t, m, q])) (hS : MO S m bm o) (hm : s.get bm = some o) (ht : Mp t) (hq : Ql q) (hx : getM (S.getD []) k = none) :
    Sound Try.prog (.call 9 [.ptr b 0, .int .u8 (Int.ofNat 6), .int .u64 k, .int .u64 v] s) ⟨.ret, [.tuple [.int .u8 (Int.ofNat 2), .int .u64 (Int.ofNat 0)]], s⟩ := by
  cases S with
  | none =>
    obtain ⟨rfl, _⟩ := hS
    exact D6n hb ht hq
  | some es =>
    obtain ⟨rfl, bn, ck, rfl⟩ := hS
    exact D6a hb hm ht hq hx
theorem getT (hb : s.get b = some (.cells false [t, m, q])) (hS : MO S m bm o) (hm : s.get bm = some o) (ht : Mp t) (hq : Ql q) (hx : getM (S.getD []) k = none) :
    Sound Try.prog (.call 9 [.ptr b 0, .int .u8 (Int.ofNat 7), .int .u64 k, .int .u64 v] s) ⟨.ret, [.tuple [.int .u8 (Int.ofNat 2), .int .u64 (Int.ofNat 0)]], s⟩ := by
  cases S with
  | none =>
    obtain ⟨rfl, _⟩ := hS
    exact D7n hb ht hq
  | some es =>
    obtain ⟨rfl, bn, ck, rfl⟩ := hS
    exact D7a hb hm ht hq hx
theorem has_in (hb : s.get b = some (.cells false [m, t, q])) (hS : MO S m bm o) (hm : s.get bm = some o) (ht : Mp t) (hq : Ql q) (hx : (getM (S.getD []) k).isSome = true) :
    Sound Try.prog (.call 9 [.ptr b 0, .int .u8 (Int.ofNat 2), .int .u64 k, .int .u64 v] s) ⟨.ret, [.tuple [.int .u8 (Int.ofNat 1), .int .u64 (Int.ofNat 0)]], s⟩ := by
  have := hasC (k := k) (v := v) hb hS hm ht hq
  rwa [show hv S k = 1 from if_pos hx] at this
theorem has_out (hb : s.get b = some (.cells false [m, t, q])) (hS : MO S m bm o) (hm : s.get bm = some o) (ht : Mp t) (hq : Ql q) (hx : getM (S.getD []) k = none) :
    Sound Try.prog (.call 9 [.ptr b 0, .int .u8 (Int.ofNat 2), .int .u64 k, .int .u64 v] s) ⟨.ret, [.tuple [.int .u8 (Int.ofNat 2), .int .u64 (Int.ofNat 0)]], s⟩ := by
  have := hasC (k := k) (v := v) hb hS hm ht hq
  rwa [show hv S k = 2 from if_neg (by rw [hx]; simp)] at this
theorem has_new {w : Int} {bn : List Nat} {ck : Nat} (hb : s.get b = some (.cells false [.map bm, t, q])) (hm : s.get bm = some (.map [(.int .u64 k, .int .u64 w)] bn ck)) (ht : Mp t) (hq : Ql q) :
    Sound Try.prog (.call 9 [.ptr b 0, .int .u8 (Int.ofNat 2), .int .u64 k, .int .u64 v] s) ⟨.ret, [.tuple [.int .u8 (Int.ofNat 1), .int .u64 (Int.ofNat 0)]], s⟩ :=
  has_in (S := some [(k, w)]) (bm := bm) hb MO.mk (show s.get bm = some (.map (mapE .u64 .u64 [(k, w)]) bn ck) from hm) ht hq (by simp [getM])
theorem get_putM (n v : Int) : ∀ es, (getM (putM es n v) n).isSome = true
  | [] => by simp [putM, getM]
  | x :: l => by
    by_cases h : n = x.1
    · simp [putM, getM, h]
    · simp [putM, getM, h, get_putM n v l]
theorem popE {Q : Option (List Int × Nat)} (hb : s.get b = some (.cells false [t, q, m])) (hQ : QO Q m bm o) (hm : s.get bm = some o) (ht : Mp t) (hq : Mp q) (hne : b ≠ bm) (hx : ∀ z, Q = some z → z.1.length = z.2) :
    Sound Try.prog (.call 9 [.ptr b 0, .int .u8 (Int.ofNat 4), .int .u64 k, .int .u64 v] s) ⟨.ret, [.tuple [.int .u8 (Int.ofNat 2), .int .u64 (Int.ofNat 0)]], s⟩ := by
  cases Q with
  | none =>
    obtain ⟨rfl, _⟩ := hQ
    exact D4n hb ht hq
  | some z =>
    obtain ⟨rfl, rfl, h⟩ := hQ
    have h1 : z.1.length - z.2 = 0 := by have := hx z rfl; omega
    rw [h1] at hb
    exact D4e hb hm ht hq hne
end
variable {x : AV} {n i : Nat} {row : List AV} {f : Nat → Int × Int × Int}
theorem gb0y {T : Option (List (Int × Int))} {Q : Option (List Int × Nat)} {I : Option (List Int)} {O : Option (List Int)} {es : List (Int × Int)} {y : Int} {st : St} (W : Rw x n row f) (hi : i < n) (inv : Inv (some es) T Q I O st) (hop : (f i).1.tmod (Int.ofNat 8) = Int.ofNat 0) (hx : getM es (f i).2.1 = some y) :
    ∃ st', Inv (some es) T Q I O st' ∧ Go.Mini.Good Try.prog [(0, row)] (CA st row) ft (TA x st.iv st.ov i) (loopAt Try.prog 4 0) .normal (TA x st'.iv st'.ov (i + 1)) (CA st' row) ft := by
  obtain ⟨mS, mT, q, mS0, q1, mT2, iv, ov, oO, oI, oQ1, oT2, oS0, oQ, oT, oS⟩ := st
  have is : MO (some es) mS 1 oS := inv.s
  have is0 : MO (some es) mS0 4 oS0 := inv.s0
  have it : MO T mT 2 oT := inv.t
  have it2 : MO T mT2 5 oT2 := inv.t2
  have iq : QO Q q 3 oQ := inv.qq
  have iq1 : QO Q q1 6 oQ1 := inv.q1
  have ii : QO (Option.map (fun L => (L, 0)) I) iv 7 oI := inv.i
  have io : QO (Option.map (fun L => (L, 0)) O) ov 8 oO := inv.o
  clear inv
  have is_ := is
  have is0_ := is0
  obtain ⟨rfl, bnA, ckA, rfl⟩ := is_
  obtain ⟨rfl, bnB, ckB, rfl⟩ := is0_
  obtain ⟨a, hidx, hld⟩ := W.at_ i hi
  have hsm := W.small
  have inv2 : Inv (some es) T Q I O ⟨(.map 1), mT, q, (.map 4), q1, mT2, iv, ov, oO, oI, oQ1, oT2, (.map (mapE .u64 .u64 es) bnB ckB), oQ, oT, (.map (mapE .u64 .u64 es) bnA ckA)⟩ := ⟨is, is0, it, it2, iq, iq1, ii, io⟩
  have run := runX_sound mixed none_sound (b0y x n a i 0 0 0 (f i).1 (f i).2.1 (f i).2.2 (Int.ofNat (hv (some es) (f i).2.1)) 0 (.map (mapE .u64 .u64 es) bnA ckA) oT oQ (.map (mapE .u64 .u64 es) bnB ckB) oT2 oQ1 oI oO .dead .dead .dead (.map 1) mT q (.map 4) mT2 q1 iv ov row) ⟨W.len _, lt_q _ _ _ (by simpa using hi), hidx, (hld _ rfl).1, op_q hop, hidx, (hld _ rfl).2.1, hasC rfl is rfl it.mp iq.ql, hidx, (hld _ rfl).2.1, hidx, (hld _ rfl).2.2, D0y  rfl rfl it.mp iq.ql hx, hidx, (hld _ rfl).2.1, hidx, (hld _ rfl).2.2, D0y  rfl rfl (.inl rfl) (.inl rfl) hx, hidx, (hld _ rfl).2.1, (by have := hasC (s := CA ⟨.map 1, mT, q, .map 4, q1, mT2, iv, ov, oO, oI, oQ1, oT2, .map (mapE .u64 .u64 es) bnB ckB, oQ, oT, .map (mapE .u64 .u64 es) bnA ckA⟩ row) (b := 9) (k := (f i).2.1) (v := Int.ofNat 0) rfl is rfl it.mp iq.ql; rwa [show hv (some es) (f i).2.1 = 1 from by simp [hv, hx]] at this), wrapq _ rfl (by omega), trivial⟩
  refine ⟨_, inv2, fin run (fun b => b) inv2 rfl rfl rfl rfl rfl rfl (by decide) (by decide) W.nm rfl (by rw [inv2.t2.ren _ rfl]; rfl) (by rw [inv2.q1.ren _ rfl]; rfl) (by rw [inv2.s0.ren _ rfl]; rfl) (by rw [inv2.s.ren _ rfl, inv2.t.ren _ rfl, inv2.qq.ren _ rfl]; rfl) rfl rfl rfl rfl rfl rfl rfl rfl rfl ⟨.inr (.inr ⟨13, by decide, rfl⟩), .inr (.inr ⟨12, by decide, rfl⟩), .inr (.inr ⟨11, by decide, rfl⟩), .inr (.inr ⟨10, by decide, rfl⟩), .inr (.inr ⟨9, by decide, rfl⟩), .inr (.inr ⟨8, by decide, rfl⟩), .inr (.inr ⟨7, by decide, rfl⟩), .inr (.inr ⟨6, by decide, rfl⟩), .inr (.inr ⟨5, by decide, rfl⟩), .inr (.inr ⟨4, by decide, rfl⟩), .inr (.inr ⟨3, by decide, rfl⟩), .inr (.inr ⟨2, by decide, rfl⟩), .inr (.inr ⟨1, by decide, rfl⟩), .inr (.inr ⟨0, by decide, rfl⟩), trivial⟩ rfl (Nat.le_of_ble_eq_true rfl) (fun b h1 h2 => by rw [only0 h1 h2]; rfl) (W.xr _ rfl) W.xn (inv2.i.ren _ rfl) (inv2.o.ren _ rfl) ?_⟩
  unfold TA
  repeat (first | exact rfl | refine ⟨_, _, rfl, ?_, ?_⟩ | exact .inr ⟨rfl, rfl⟩ | exact .inl ⟨rfl, rfl⟩ | exact .inl ⟨W.na.1.symm, W.na.2⟩ | exact see_same _ | exact .inl ⟨ii.na.1.symm, ii.na.2⟩ | exact .inl ⟨io.na.1.symm, io.na.2⟩)
theorem gb0a {T : Option (List (Int × Int))} {Q : Option (List Int × Nat)} {I : Option (List Int)} {O : Option (List Int)} {es : List (Int × Int)} {st : St} (W : Rw x n row f) (hi : i < n) (inv : Inv (some es) T Q I O st) (hop : (f i).1.tmod (Int.ofNat 8) = Int.ofNat 0) (hx : getM es (f i).2.1 = none) :
    ∃ st', Inv (some (putM es (f i).2.1 (Int.ofNat 0))) T Q I O st' ∧ Go.Mini.Good Try.prog [(0, row)] (CA st row) ft (TA x st.iv st.ov i) (loopAt Try.prog 4 0) .normal (TA x st'.iv st'.ov (i + 1)) (CA st' row) ft := by
  obtain ⟨mS, mT, q, mS0, q1, mT2, iv, ov, oO, oI, oQ1, oT2, oS0, oQ, oT, oS⟩ := st
  have is : MO (some es) mS 1 oS := inv.s
  have is0 : MO (some es) mS0 4 oS0 := inv.s0
  have it : MO T mT 2 oT := inv.t
  have it2 : MO T mT2 5 oT2 := inv.t2
  have iq : QO Q q 3 oQ := inv.qq
  have iq1 : QO Q q1 6 oQ1 := inv.q1
  have ii : QO (Option.map (fun L => (L, 0)) I) iv 7 oI := inv.i
  have io : QO (Option.map (fun L => (L, 0)) O) ov 8 oO := inv.o
  clear inv
  have is_ := is
  have is0_ := is0
  obtain ⟨rfl, bnA, ckA, rfl⟩ := is_
  obtain ⟨rfl, bnB, ckB, rfl⟩ := is0_
  obtain ⟨a, hidx, hld⟩ := W.at_ i hi
  have hsm := W.small
  have inv2 : Inv (some (putM es (f i).2.1 (Int.ofNat 0))) T Q I O ⟨(.map 1), mT, q, (.map 4), q1, mT2, iv, ov, oO, oI, oQ1, oT2, (.map (mapE .u64 .u64 (putM es (f i).2.1 (Int.ofNat 0))) (bnB ++ [ckB]) (ckB + 1)), oQ, oT, (.map (mapE .u64 .u64 (putM es (f i).2.1 (Int.ofNat 0))) (bnA ++ [ckA]) (ckA + 1))⟩ := ⟨MO.mk, MO.mk, it, it2, iq, iq1, ii, io⟩
  have run := runX_sound mixed none_sound (b0a x n a i 0 0 0 (f i).1 (f i).2.1 (f i).2.2 (Int.ofNat (hv (some es) (f i).2.1)) 0 (.map (mapE .u64 .u64 es) bnA ckA) oT oQ (.map (mapE .u64 .u64 es) bnB ckB) oT2 oQ1 oI oO (.map (mapE .u64 .u64 (putM es (f i).2.1 (Int.ofNat 0))) (bnA ++ [ckA]) (ckA + 1)) (.map (mapE .u64 .u64 (putM es (f i).2.1 (Int.ofNat 0))) (bnB ++ [ckB]) (ckB + 1)) .dead (.map 1) mT q (.map 4) mT2 q1 iv ov row) ⟨W.len _, lt_q _ _ _ (by simpa using hi), hidx, (hld _ rfl).1, op_q hop, hidx, (hld _ rfl).2.1, hasC rfl is rfl it.mp iq.ql, hidx, (hld _ rfl).2.1, hidx, (hld _ rfl).2.2, (Sound.to (D0a  rfl rfl it.mp iq.ql hx) rfl), hidx, (hld _ rfl).2.1, hidx, (hld _ rfl).2.2, (Sound.to (D0a  rfl rfl (.inl rfl) (.inl rfl) hx) rfl), hidx, (hld _ rfl).2.1, (has_in (S := some (putM es (f i).2.1 (Int.ofNat 0))) rfl MO.mk rfl it.mp iq.ql (get_putM _ _ _)), wrapq _ rfl (by omega), trivial⟩
  refine ⟨_, inv2, fin run (fun b => b) inv2 rfl rfl rfl rfl rfl rfl (by decide) (by decide) W.nm rfl (by rw [inv2.t2.ren _ rfl]; rfl) (by rw [inv2.q1.ren _ rfl]; rfl) (by rw [inv2.s0.ren _ rfl]; rfl) (by rw [inv2.s.ren _ rfl, inv2.t.ren _ rfl, inv2.qq.ren _ rfl]; rfl) rfl rfl rfl rfl rfl rfl rfl rfl rfl ⟨.inr (.inr ⟨13, by decide, rfl⟩), .inr (.inr ⟨12, by decide, rfl⟩), .inr (.inr ⟨11, by decide, rfl⟩), .inr (.inr ⟨10, by decide, rfl⟩), .inr (.inr ⟨9, by decide, rfl⟩), .inr (.inr ⟨8, by decide, rfl⟩), .inr (.inr ⟨7, by decide, rfl⟩), .inr (.inr ⟨6, by decide, rfl⟩), .inr (.inr ⟨5, by decide, rfl⟩), .inr (.inr ⟨4, by decide, rfl⟩), .inr (.inr ⟨3, by decide, rfl⟩), .inr (.inr ⟨2, by decide, rfl⟩), .inr (.inr ⟨1, by decide, rfl⟩), .inr (.inr ⟨0, by decide, rfl⟩), trivial⟩ rfl (Nat.le_of_ble_eq_true rfl) (fun b h1 h2 => by rw [only0 h1 h2]; rfl) (W.xr _ rfl) W.xn (inv2.i.ren _ rfl) (inv2.o.ren _ rfl) ?_⟩
  unfold TA
  repeat (first | exact rfl | refine ⟨_, _, rfl, ?_, ?_⟩ | exact .inr ⟨rfl, rfl⟩ | exact .inl ⟨rfl, rfl⟩ | exact .inl ⟨W.na.1.symm, W.na.2⟩ | exact see_same _ | exact .inl ⟨ii.na.1.symm, ii.na.2⟩ | exact .inl ⟨io.na.1.symm, io.na.2⟩)
theorem gb0n {T : Option (List (Int × Int))} {Q : Option (List Int × Nat)} {I : Option (List Int)} {O : Option (List Int)} {st : St} (W : Rw x n row f) (hi : i < n) (inv : Inv none T Q I O st) (hop : (f i).1.tmod (Int.ofNat 8) = Int.ofNat 0) :
    ∃ st', Inv (some [((f i).2.1, (Int.ofNat 0))]) T Q I O st' ∧ Go.Mini.Good Try.prog [(0, row)] (CA st row) ft (TA x st.iv st.ov i) (loopAt Try.prog 4 0) .normal (TA x st'.iv st'.ov (i + 1)) (CA st' row) ft := by
  obtain ⟨mS, mT, q, mS0, q1, mT2, iv, ov, oO, oI, oQ1, oT2, oS0, oQ, oT, oS⟩ := st
  have is : MO none mS 1 oS := inv.s
  have is0 : MO none mS0 4 oS0 := inv.s0
  have it : MO T mT 2 oT := inv.t
  have it2 : MO T mT2 5 oT2 := inv.t2
  have iq : QO Q q 3 oQ := inv.qq
  have iq1 : QO Q q1 6 oQ1 := inv.q1
  have ii : QO (Option.map (fun L => (L, 0)) I) iv 7 oI := inv.i
  have io : QO (Option.map (fun L => (L, 0)) O) ov 8 oO := inv.o
  clear inv
  have is_ := is
  have is0_ := is0
  obtain ⟨rfl, hcA⟩ := is_
  obtain ⟨rfl, hcB⟩ := is0_
  obtain ⟨a, hidx, hld⟩ := W.at_ i hi
  have hsm := W.small
  have inv2 : Inv (some [((f i).2.1, (Int.ofNat 0))]) T Q I O ⟨(.map 1), mT, q, (.map 4), q1, mT2, iv, ov, oO, oI, oQ1, oT2, (.map [(.int .u64 (f i).2.1, .int .u64 (Int.ofNat 0))] [0] 1), oQ, oT, (.map [(.int .u64 (f i).2.1, .int .u64 (Int.ofNat 0))] [0] 1)⟩ := ⟨MO.mk (es := [((f i).2.1, (Int.ofNat 0))]), MO.mk (es := [((f i).2.1, (Int.ofNat 0))]), it, it2, iq, iq1, ii, io⟩
  have run := runX_sound mixed none_sound (b0n x n a i 0 0 0 (f i).1 (f i).2.1 (f i).2.2 (Int.ofNat (hv none (f i).2.1)) 0 oS oT oQ oS0 oT2 oQ1 oI oO (.map [(.int .u64 (f i).2.1, .int .u64 (Int.ofNat 0))] [0] 1) (.map [(.int .u64 (f i).2.1, .int .u64 (Int.ofNat 0))] [0] 1) .dead .nilMap mT q .nilMap mT2 q1 iv ov row) ⟨W.len _, lt_q _ _ _ (by simpa using hi), hidx, (hld _ rfl).1, op_q hop, hidx, (hld _ rfl).2.1, hasC rfl is rfl it.mp iq.ql, hidx, (hld _ rfl).2.1, hidx, (hld _ rfl).2.2, (Sound.to (D0n rfl it.mp iq.ql) rfl), hidx, (hld _ rfl).2.1, hidx, (hld _ rfl).2.2, (Sound.to (D0n rfl (.inl rfl) (.inl rfl)) rfl), hidx, (hld _ rfl).2.1, (has_new rfl rfl it.mp iq.ql), wrapq _ rfl (by omega), trivial⟩
  refine ⟨_, inv2, fin run (fun b => if b = 1 then 14 else if b = 4 then 15 else b) inv2 rfl rfl rfl rfl rfl rfl (by decide) (by decide) W.nm rfl (by rw [inv2.t2.ren _ rfl]; rfl) (by rw [inv2.q1.ren _ rfl]; rfl) rfl (by rw [inv2.t.ren _ rfl, inv2.qq.ren _ rfl]; rfl) rfl rfl rfl rfl rfl rfl rfl rfl rfl ⟨.inr (.inr ⟨4, by decide, rfl⟩), .inr (.inr ⟨1, by decide, rfl⟩), .inr (.inr ⟨13, by decide, rfl⟩), .inr (.inr ⟨12, by decide, rfl⟩), .inr (.inr ⟨11, by decide, rfl⟩), .inr (.inr ⟨10, by decide, rfl⟩), .inr (.inr ⟨9, by decide, rfl⟩), .inr (.inr ⟨8, by decide, rfl⟩), .inr (.inr ⟨7, by decide, rfl⟩), .inr (.inr ⟨6, by decide, rfl⟩), .inr (.inr ⟨5, by decide, rfl⟩), .inr (.inl hcB), .inr (.inr ⟨3, by decide, rfl⟩), .inr (.inr ⟨2, by decide, rfl⟩), .inr (.inl hcA), .inr (.inr ⟨0, by decide, rfl⟩), trivial⟩ rfl (Nat.le_of_ble_eq_true rfl) (fun b h1 h2 => by rw [only0 h1 h2]; rfl) (W.xr _ rfl) W.xn (inv2.i.ren _ rfl) (inv2.o.ren _ rfl) ?_⟩
  unfold TA
  repeat (first | exact rfl | refine ⟨_, _, rfl, ?_, ?_⟩ | exact .inr ⟨rfl, rfl⟩ | exact .inl ⟨rfl, rfl⟩ | exact .inl ⟨W.na.1.symm, W.na.2⟩ | exact see_same _ | exact .inl ⟨ii.na.1.symm, ii.na.2⟩ | exact .inl ⟨io.na.1.symm, io.na.2⟩)
theorem gb1y {T : Option (List (Int × Int))} {Q : Option (List Int × Nat)} {I : Option (List Int)} {O : Option (List Int)} {es : List (Int × Int)} {y : Int} {st : St} (W : Rw x n row f) (hi : i < n) (inv : Inv (some es) T Q I O st) (hop : (f i).1.tmod (Int.ofNat 8) = Int.ofNat 1) (hx : getM es (f i).2.1 = some y) (hdel : getM (delM es (f i).2.1) (f i).2.1 = none) :
    ∃ st', Inv (some (delM es (f i).2.1)) T Q I O st' ∧ Go.Mini.Good Try.prog [(0, row)] (CA st row) ft (TA x st.iv st.ov i) (loopAt Try.prog 4 0) .normal (TA x st'.iv st'.ov (i + 1)) (CA st' row) ft := by
  obtain ⟨mS, mT, q, mS0, q1, mT2, iv, ov, oO, oI, oQ1, oT2, oS0, oQ, oT, oS⟩ := st
  have is : MO (some es) mS 1 oS := inv.s
  have is0 : MO (some es) mS0 4 oS0 := inv.s0
  have it : MO T mT 2 oT := inv.t
  have it2 : MO T mT2 5 oT2 := inv.t2
  have iq : QO Q q 3 oQ := inv.qq
  have iq1 : QO Q q1 6 oQ1 := inv.q1
  have ii : QO (Option.map (fun L => (L, 0)) I) iv 7 oI := inv.i
  have io : QO (Option.map (fun L => (L, 0)) O) ov 8 oO := inv.o
  clear inv
  have is_ := is
  have is0_ := is0
  obtain ⟨rfl, bnA, ckA, rfl⟩ := is_
  obtain ⟨rfl, bnB, ckB, rfl⟩ := is0_
  obtain ⟨a, hidx, hld⟩ := W.at_ i hi
  have hsm := W.small
  have inv2 : Inv (some (delM es (f i).2.1)) T Q I O ⟨(.map 1), mT, q, (.map 4), q1, mT2, iv, ov, oO, oI, oQ1, oT2, (.map (mapE .u64 .u64 (delM es (f i).2.1)) (bnB.eraseIdx (posM es (f i).2.1)) ckB), oQ, oT, (.map (mapE .u64 .u64 (delM es (f i).2.1)) (bnA.eraseIdx (posM es (f i).2.1)) ckA)⟩ := ⟨MO.mk, MO.mk, it, it2, iq, iq1, ii, io⟩
  have run := runX_sound mixed none_sound (b1y x n a i 0 0 0 (f i).1 (f i).2.1 (f i).2.2 (Int.ofNat (hv (some es) (f i).2.1)) 0 (.map (mapE .u64 .u64 es) bnA ckA) oT oQ (.map (mapE .u64 .u64 es) bnB ckB) oT2 oQ1 oI oO (.map (mapE .u64 .u64 (delM es (f i).2.1)) (bnA.eraseIdx (posM es (f i).2.1)) ckA) (.map (mapE .u64 .u64 (delM es (f i).2.1)) (bnB.eraseIdx (posM es (f i).2.1)) ckB) .dead (.map 1) mT q (.map 4) mT2 q1 iv ov row) ⟨W.len _, lt_q _ _ _ (by simpa using hi), hidx, (hld _ rfl).1, op_q hop, hidx, (hld _ rfl).2.1, hasC rfl is rfl it.mp iq.ql, hidx, (hld _ rfl).2.1, hidx, (hld _ rfl).2.2, (Sound.to (D1y  rfl rfl it.mp iq.ql hx) rfl), hidx, (hld _ rfl).2.1, hidx, (hld _ rfl).2.2, (Sound.to (D1y  rfl rfl (.inl rfl) (.inl rfl) hx) rfl), hidx, (hld _ rfl).2.1, (has_out (S := some (delM es (f i).2.1)) rfl MO.mk rfl it.mp iq.ql hdel), wrapq _ rfl (by omega), trivial⟩
  refine ⟨_, inv2, fin run (fun b => b) inv2 rfl rfl rfl rfl rfl rfl (by decide) (by decide) W.nm rfl (by rw [inv2.t2.ren _ rfl]; rfl) (by rw [inv2.q1.ren _ rfl]; rfl) (by rw [inv2.s0.ren _ rfl]; rfl) (by rw [inv2.s.ren _ rfl, inv2.t.ren _ rfl, inv2.qq.ren _ rfl]; rfl) rfl rfl rfl rfl rfl rfl rfl rfl rfl ⟨.inr (.inr ⟨13, by decide, rfl⟩), .inr (.inr ⟨12, by decide, rfl⟩), .inr (.inr ⟨11, by decide, rfl⟩), .inr (.inr ⟨10, by decide, rfl⟩), .inr (.inr ⟨9, by decide, rfl⟩), .inr (.inr ⟨8, by decide, rfl⟩), .inr (.inr ⟨7, by decide, rfl⟩), .inr (.inr ⟨6, by decide, rfl⟩), .inr (.inr ⟨5, by decide, rfl⟩), .inr (.inr ⟨4, by decide, rfl⟩), .inr (.inr ⟨3, by decide, rfl⟩), .inr (.inr ⟨2, by decide, rfl⟩), .inr (.inr ⟨1, by decide, rfl⟩), .inr (.inr ⟨0, by decide, rfl⟩), trivial⟩ rfl (Nat.le_of_ble_eq_true rfl) (fun b h1 h2 => by rw [only0 h1 h2]; rfl) (W.xr _ rfl) W.xn (inv2.i.ren _ rfl) (inv2.o.ren _ rfl) ?_⟩
  unfold TA
  repeat (first | exact rfl | refine ⟨_, _, rfl, ?_, ?_⟩ | exact .inr ⟨rfl, rfl⟩ | exact .inl ⟨rfl, rfl⟩ | exact .inl ⟨W.na.1.symm, W.na.2⟩ | exact see_same _ | exact .inl ⟨ii.na.1.symm, ii.na.2⟩ | exact .inl ⟨io.na.1.symm, io.na.2⟩)
theorem gb1a {S : Option (List (Int × Int))} {T : Option (List (Int × Int))} {Q : Option (List Int × Nat)} {I : Option (List Int)} {O : Option (List Int)} {st : St} (W : Rw x n row f) (hi : i < n) (inv : Inv S T Q I O st) (hop : (f i).1.tmod (Int.ofNat 8) = Int.ofNat 1) (hx : getM (S.getD []) (f i).2.1 = none) :
    ∃ st', Inv S T Q I O st' ∧ Go.Mini.Good Try.prog [(0, row)] (CA st row) ft (TA x st.iv st.ov i) (loopAt Try.prog 4 0) .normal (TA x st'.iv st'.ov (i + 1)) (CA st' row) ft := by
  obtain ⟨mS, mT, q, mS0, q1, mT2, iv, ov, oO, oI, oQ1, oT2, oS0, oQ, oT, oS⟩ := st
  have is : MO S mS 1 oS := inv.s
  have is0 : MO S mS0 4 oS0 := inv.s0
  have it : MO T mT 2 oT := inv.t
  have it2 : MO T mT2 5 oT2 := inv.t2
  have iq : QO Q q 3 oQ := inv.qq
  have iq1 : QO Q q1 6 oQ1 := inv.q1
  have ii : QO (Option.map (fun L => (L, 0)) I) iv 7 oI := inv.i
  have io : QO (Option.map (fun L => (L, 0)) O) ov 8 oO := inv.o
  clear inv
  obtain ⟨a, hidx, hld⟩ := W.at_ i hi
  have hsm := W.small
  have inv2 : Inv S T Q I O ⟨mS, mT, q, mS0, q1, mT2, iv, ov, oO, oI, oQ1, oT2, oS0, oQ, oT, oS⟩ := ⟨is, is0, it, it2, iq, iq1, ii, io⟩
  have run := runX_sound mixed none_sound (b1a x n a i 0 0 0 (f i).1 (f i).2.1 (f i).2.2 (Int.ofNat (hv S (f i).2.1)) 0 oS oT oQ oS0 oT2 oQ1 oI oO .dead .dead .dead mS mT q mS0 mT2 q1 iv ov row) ⟨W.len _, lt_q _ _ _ (by simpa using hi), hidx, (hld _ rfl).1, op_q hop, hidx, (hld _ rfl).2.1, hasC rfl is rfl it.mp iq.ql, hidx, (hld _ rfl).2.1, hidx, (hld _ rfl).2.2, delC rfl is rfl it.mp iq.ql hx, hidx, (hld _ rfl).2.1, hidx, (hld _ rfl).2.2, delC rfl is0 rfl (.inl rfl) (.inl rfl) hx, hidx, (hld _ rfl).2.1, (has_out rfl is rfl it.mp iq.ql hx), wrapq _ rfl (by omega), trivial⟩
  refine ⟨_, inv2, fin run (fun b => b) inv2 rfl rfl rfl rfl rfl rfl (by decide) (by decide) W.nm rfl (by rw [inv2.t2.ren _ rfl]; rfl) (by rw [inv2.q1.ren _ rfl]; rfl) (by rw [inv2.s0.ren _ rfl]; rfl) (by rw [inv2.s.ren _ rfl, inv2.t.ren _ rfl, inv2.qq.ren _ rfl]; rfl) rfl rfl rfl rfl rfl rfl rfl rfl rfl ⟨.inr (.inr ⟨13, by decide, rfl⟩), .inr (.inr ⟨12, by decide, rfl⟩), .inr (.inr ⟨11, by decide, rfl⟩), .inr (.inr ⟨10, by decide, rfl⟩), .inr (.inr ⟨9, by decide, rfl⟩), .inr (.inr ⟨8, by decide, rfl⟩), .inr (.inr ⟨7, by decide, rfl⟩), .inr (.inr ⟨6, by decide, rfl⟩), .inr (.inr ⟨5, by decide, rfl⟩), .inr (.inr ⟨4, by decide, rfl⟩), .inr (.inr ⟨3, by decide, rfl⟩), .inr (.inr ⟨2, by decide, rfl⟩), .inr (.inr ⟨1, by decide, rfl⟩), .inr (.inr ⟨0, by decide, rfl⟩), trivial⟩ rfl (Nat.le_of_ble_eq_true rfl) (fun b h1 h2 => by rw [only0 h1 h2]; rfl) (W.xr _ rfl) W.xn (inv2.i.ren _ rfl) (inv2.o.ren _ rfl) ?_⟩
  unfold TA
  repeat (first | exact rfl | refine ⟨_, _, rfl, ?_, ?_⟩ | exact .inr ⟨rfl, rfl⟩ | exact .inl ⟨rfl, rfl⟩ | exact .inl ⟨W.na.1.symm, W.na.2⟩ | exact see_same _ | exact .inl ⟨ii.na.1.symm, ii.na.2⟩ | exact .inl ⟨io.na.1.symm, io.na.2⟩)
theorem gb2y {S : Option (List (Int × Int))} {T : Option (List (Int × Int))} {Q : Option (List Int × Nat)} {I : Option (List Int)} {O : Option (List Int)} {st : St} (W : Rw x n row f) (hi : i < n) (inv : Inv S T Q I O st) (hop : (f i).1.tmod (Int.ofNat 8) = Int.ofNat 2) (hx : (getM (S.getD []) (f i).2.1).isSome = true) :
    ∃ st', Inv S T Q I O st' ∧ Go.Mini.Good Try.prog [(0, row)] (CA st row) ft (TA x st.iv st.ov i) (loopAt Try.prog 4 0) .normal (TA x st'.iv st'.ov (i + 1)) (CA st' row) ft := by
  obtain ⟨mS, mT, q, mS0, q1, mT2, iv, ov, oO, oI, oQ1, oT2, oS0, oQ, oT, oS⟩ := st
  have is : MO S mS 1 oS := inv.s
  have is0 : MO S mS0 4 oS0 := inv.s0
  have it : MO T mT 2 oT := inv.t
  have it2 : MO T mT2 5 oT2 := inv.t2
  have iq : QO Q q 3 oQ := inv.qq
  have iq1 : QO Q q1 6 oQ1 := inv.q1
  have ii : QO (Option.map (fun L => (L, 0)) I) iv 7 oI := inv.i
  have io : QO (Option.map (fun L => (L, 0)) O) ov 8 oO := inv.o
  clear inv
  obtain ⟨a, hidx, hld⟩ := W.at_ i hi
  have hsm := W.small
  have inv2 : Inv S T Q I O ⟨mS, mT, q, mS0, q1, mT2, iv, ov, oO, oI, oQ1, oT2, oS0, oQ, oT, oS⟩ := ⟨is, is0, it, it2, iq, iq1, ii, io⟩
  have run := runX_sound mixed none_sound (b2y x n a i 0 0 0 (f i).1 (f i).2.1 (f i).2.2 (Int.ofNat (hv S (f i).2.1)) 0 oS oT oQ oS0 oT2 oQ1 oI oO .dead .dead .dead mS mT q mS0 mT2 q1 iv ov row) ⟨W.len _, lt_q _ _ _ (by simpa using hi), hidx, (hld _ rfl).1, op_q hop, hidx, (hld _ rfl).2.1, hasC rfl is rfl it.mp iq.ql, hidx, (hld _ rfl).2.1, hidx, (hld _ rfl).2.2, has_in rfl is rfl it.mp iq.ql hx, hidx, (hld _ rfl).2.1, hidx, (hld _ rfl).2.2, has_in rfl is0 rfl (.inl rfl) (.inl rfl) hx, hidx, (hld _ rfl).2.1, hasC rfl is rfl it.mp iq.ql, same_q _, wrapq _ rfl (by omega), trivial⟩
  refine ⟨_, inv2, fin run (fun b => b) inv2 rfl rfl rfl rfl rfl rfl (by decide) (by decide) W.nm rfl (by rw [inv2.t2.ren _ rfl]; rfl) (by rw [inv2.q1.ren _ rfl]; rfl) (by rw [inv2.s0.ren _ rfl]; rfl) (by rw [inv2.s.ren _ rfl, inv2.t.ren _ rfl, inv2.qq.ren _ rfl]; rfl) rfl rfl rfl rfl rfl rfl rfl rfl rfl ⟨.inr (.inr ⟨13, by decide, rfl⟩), .inr (.inr ⟨12, by decide, rfl⟩), .inr (.inr ⟨11, by decide, rfl⟩), .inr (.inr ⟨10, by decide, rfl⟩), .inr (.inr ⟨9, by decide, rfl⟩), .inr (.inr ⟨8, by decide, rfl⟩), .inr (.inr ⟨7, by decide, rfl⟩), .inr (.inr ⟨6, by decide, rfl⟩), .inr (.inr ⟨5, by decide, rfl⟩), .inr (.inr ⟨4, by decide, rfl⟩), .inr (.inr ⟨3, by decide, rfl⟩), .inr (.inr ⟨2, by decide, rfl⟩), .inr (.inr ⟨1, by decide, rfl⟩), .inr (.inr ⟨0, by decide, rfl⟩), trivial⟩ rfl (Nat.le_of_ble_eq_true rfl) (fun b h1 h2 => by rw [only0 h1 h2]; rfl) (W.xr _ rfl) W.xn (inv2.i.ren _ rfl) (inv2.o.ren _ rfl) ?_⟩
  unfold TA
  repeat (first | exact rfl | refine ⟨_, _, rfl, ?_, ?_⟩ | exact .inr ⟨rfl, rfl⟩ | exact .inl ⟨rfl, rfl⟩ | exact .inl ⟨W.na.1.symm, W.na.2⟩ | exact see_same _ | exact .inl ⟨ii.na.1.symm, ii.na.2⟩ | exact .inl ⟨io.na.1.symm, io.na.2⟩)
theorem gb2a {S : Option (List (Int × Int))} {T : Option (List (Int × Int))} {Q : Option (List Int × Nat)} {I : Option (List Int)} {O : Option (List Int)} {st : St} (W : Rw x n row f) (hi : i < n) (inv : Inv S T Q I O st) (hop : (f i).1.tmod (Int.ofNat 8) = Int.ofNat 2) (hx : getM (S.getD []) (f i).2.1 = none) :
    ∃ st', Inv S T Q I O st' ∧ Go.Mini.Good Try.prog [(0, row)] (CA st row) ft (TA x st.iv st.ov i) (loopAt Try.prog 4 0) .normal (TA x st'.iv st'.ov (i + 1)) (CA st' row) ft := by
  obtain ⟨mS, mT, q, mS0, q1, mT2, iv, ov, oO, oI, oQ1, oT2, oS0, oQ, oT, oS⟩ := st
  have is : MO S mS 1 oS := inv.s
  have is0 : MO S mS0 4 oS0 := inv.s0
  have it : MO T mT 2 oT := inv.t
  have it2 : MO T mT2 5 oT2 := inv.t2
  have iq : QO Q q 3 oQ := inv.qq
  have iq1 : QO Q q1 6 oQ1 := inv.q1
  have ii : QO (Option.map (fun L => (L, 0)) I) iv 7 oI := inv.i
  have io : QO (Option.map (fun L => (L, 0)) O) ov 8 oO := inv.o
  clear inv
  obtain ⟨a, hidx, hld⟩ := W.at_ i hi
  have hsm := W.small
  have inv2 : Inv S T Q I O ⟨mS, mT, q, mS0, q1, mT2, iv, ov, oO, oI, oQ1, oT2, oS0, oQ, oT, oS⟩ := ⟨is, is0, it, it2, iq, iq1, ii, io⟩
  have run := runX_sound mixed none_sound (b2a x n a i 0 0 0 (f i).1 (f i).2.1 (f i).2.2 (Int.ofNat (hv S (f i).2.1)) 0 oS oT oQ oS0 oT2 oQ1 oI oO .dead .dead .dead mS mT q mS0 mT2 q1 iv ov row) ⟨W.len _, lt_q _ _ _ (by simpa using hi), hidx, (hld _ rfl).1, op_q hop, hidx, (hld _ rfl).2.1, hasC rfl is rfl it.mp iq.ql, hidx, (hld _ rfl).2.1, hidx, (hld _ rfl).2.2, has_out rfl is rfl it.mp iq.ql hx, hidx, (hld _ rfl).2.1, hidx, (hld _ rfl).2.2, has_out rfl is0 rfl (.inl rfl) (.inl rfl) hx, hidx, (hld _ rfl).2.1, hasC rfl is rfl it.mp iq.ql, same_q _, wrapq _ rfl (by omega), trivial⟩
  refine ⟨_, inv2, fin run (fun b => b) inv2 rfl rfl rfl rfl rfl rfl (by decide) (by decide) W.nm rfl (by rw [inv2.t2.ren _ rfl]; rfl) (by rw [inv2.q1.ren _ rfl]; rfl) (by rw [inv2.s0.ren _ rfl]; rfl) (by rw [inv2.s.ren _ rfl, inv2.t.ren _ rfl, inv2.qq.ren _ rfl]; rfl) rfl rfl rfl rfl rfl rfl rfl rfl rfl ⟨.inr (.inr ⟨13, by decide, rfl⟩), .inr (.inr ⟨12, by decide, rfl⟩), .inr (.inr ⟨11, by decide, rfl⟩), .inr (.inr ⟨10, by decide, rfl⟩), .inr (.inr ⟨9, by decide, rfl⟩), .inr (.inr ⟨8, by decide, rfl⟩), .inr (.inr ⟨7, by decide, rfl⟩), .inr (.inr ⟨6, by decide, rfl⟩), .inr (.inr ⟨5, by decide, rfl⟩), .inr (.inr ⟨4, by decide, rfl⟩), .inr (.inr ⟨3, by decide, rfl⟩), .inr (.inr ⟨2, by decide, rfl⟩), .inr (.inr ⟨1, by decide, rfl⟩), .inr (.inr ⟨0, by decide, rfl⟩), trivial⟩ rfl (Nat.le_of_ble_eq_true rfl) (fun b h1 h2 => by rw [only0 h1 h2]; rfl) (W.xr _ rfl) W.xn (inv2.i.ren _ rfl) (inv2.o.ren _ rfl) ?_⟩
  unfold TA
  repeat (first | exact rfl | refine ⟨_, _, rfl, ?_, ?_⟩ | exact .inr ⟨rfl, rfl⟩ | exact .inl ⟨rfl, rfl⟩ | exact .inl ⟨W.na.1.symm, W.na.2⟩ | exact see_same _ | exact .inl ⟨ii.na.1.symm, ii.na.2⟩ | exact .inl ⟨io.na.1.symm, io.na.2⟩)
theorem gb5y {S : Option (List (Int × Int))} {Q : Option (List Int × Nat)} {I : Option (List Int)} {O : Option (List Int)} {es : List (Int × Int)} {y : Int} {st : St} (W : Rw x n row f) (hi : i < n) (inv : Inv S (some es) Q I O st) (hop : (f i).1.tmod (Int.ofNat 8) = Int.ofNat 5) (hx : getM es (f i).2.1 = some y) :
    ∃ st', Inv S (some es) Q I O st' ∧ Go.Mini.Good Try.prog [(0, row)] (CA st row) ft (TA x st.iv st.ov i) (loopAt Try.prog 4 0) .normal (TA x st'.iv st'.ov (i + 1)) (CA st' row) ft := by
  obtain ⟨mS, mT, q, mS0, q1, mT2, iv, ov, oO, oI, oQ1, oT2, oS0, oQ, oT, oS⟩ := st
  have is : MO S mS 1 oS := inv.s
  have is0 : MO S mS0 4 oS0 := inv.s0
  have it : MO (some es) mT 2 oT := inv.t
  have it2 : MO (some es) mT2 5 oT2 := inv.t2
  have iq : QO Q q 3 oQ := inv.qq
  have iq1 : QO Q q1 6 oQ1 := inv.q1
  have ii : QO (Option.map (fun L => (L, 0)) I) iv 7 oI := inv.i
  have io : QO (Option.map (fun L => (L, 0)) O) ov 8 oO := inv.o
  clear inv
  have it_ := it
  have it2_ := it2
  obtain ⟨rfl, bnA, ckA, rfl⟩ := it_
  obtain ⟨rfl, bnB, ckB, rfl⟩ := it2_
  obtain ⟨a, hidx, hld⟩ := W.at_ i hi
  have hsm := W.small
  have inv2 : Inv S (some es) Q I O ⟨mS, (.map 2), q, mS0, q1, (.map 5), iv, ov, oO, oI, oQ1, (.map (mapE .u64 .u64 es) bnB ckB), oS0, oQ, (.map (mapE .u64 .u64 es) bnA ckA), oS⟩ := ⟨is, is0, it, it2, iq, iq1, ii, io⟩
  have run := runX_sound mixed none_sound (b5y x n a i 0 0 0 (f i).1 (f i).2.1 (f i).2.2 (Int.ofNat (hv S (f i).2.1)) 0 oS (.map (mapE .u64 .u64 es) bnA ckA) oQ oS0 (.map (mapE .u64 .u64 es) bnB ckB) oQ1 oI oO .dead .dead .dead mS (.map 2) q mS0 (.map 5) q1 iv ov row) ⟨W.len _, lt_q _ _ _ (by simpa using hi), hidx, (hld _ rfl).1, op_q hop, hidx, (hld _ rfl).2.1, hasC rfl is rfl it.mp iq.ql, hidx, (hld _ rfl).2.1, hidx, (hld _ rfl).2.2, D5y  rfl rfl is.mp iq.ql hx, hidx, (hld _ rfl).2.1, hidx, (hld _ rfl).2.2, D5y  rfl rfl (.inl rfl) (.inl rfl) hx, hidx, (hld _ rfl).2.1, hasC rfl is rfl it.mp iq.ql, same_q _, wrapq _ rfl (by omega), trivial⟩
  refine ⟨_, inv2, fin run (fun b => b) inv2 rfl rfl rfl rfl rfl rfl (by decide) (by decide) W.nm rfl (by rw [inv2.t2.ren _ rfl]; rfl) (by rw [inv2.q1.ren _ rfl]; rfl) (by rw [inv2.s0.ren _ rfl]; rfl) (by rw [inv2.s.ren _ rfl, inv2.t.ren _ rfl, inv2.qq.ren _ rfl]; rfl) rfl rfl rfl rfl rfl rfl rfl rfl rfl ⟨.inr (.inr ⟨13, by decide, rfl⟩), .inr (.inr ⟨12, by decide, rfl⟩), .inr (.inr ⟨11, by decide, rfl⟩), .inr (.inr ⟨10, by decide, rfl⟩), .inr (.inr ⟨9, by decide, rfl⟩), .inr (.inr ⟨8, by decide, rfl⟩), .inr (.inr ⟨7, by decide, rfl⟩), .inr (.inr ⟨6, by decide, rfl⟩), .inr (.inr ⟨5, by decide, rfl⟩), .inr (.inr ⟨4, by decide, rfl⟩), .inr (.inr ⟨3, by decide, rfl⟩), .inr (.inr ⟨2, by decide, rfl⟩), .inr (.inr ⟨1, by decide, rfl⟩), .inr (.inr ⟨0, by decide, rfl⟩), trivial⟩ rfl (Nat.le_of_ble_eq_true rfl) (fun b h1 h2 => by rw [only0 h1 h2]; rfl) (W.xr _ rfl) W.xn (inv2.i.ren _ rfl) (inv2.o.ren _ rfl) ?_⟩
  unfold TA
  repeat (first | exact rfl | refine ⟨_, _, rfl, ?_, ?_⟩ | exact .inr ⟨rfl, rfl⟩ | exact .inl ⟨rfl, rfl⟩ | exact .inl ⟨W.na.1.symm, W.na.2⟩ | exact see_same _ | exact .inl ⟨ii.na.1.symm, ii.na.2⟩ | exact .inl ⟨io.na.1.symm, io.na.2⟩)
theorem gb5a {S : Option (List (Int × Int))} {Q : Option (List Int × Nat)} {I : Option (List Int)} {O : Option (List Int)} {es : List (Int × Int)} {st : St} (W : Rw x n row f) (hi : i < n) (inv : Inv S (some es) Q I O st) (hop : (f i).1.tmod (Int.ofNat 8) = Int.ofNat 5) (hx : getM es (f i).2.1 = none) :
    ∃ st', Inv S (some (putM es (f i).2.1 (f i).2.2)) Q I O st' ∧ Go.Mini.Good Try.prog [(0, row)] (CA st row) ft (TA x st.iv st.ov i) (loopAt Try.prog 4 0) .normal (TA x st'.iv st'.ov (i + 1)) (CA st' row) ft := by
  obtain ⟨mS, mT, q, mS0, q1, mT2, iv, ov, oO, oI, oQ1, oT2, oS0, oQ, oT, oS⟩ := st
  have is : MO S mS 1 oS := inv.s
  have is0 : MO S mS0 4 oS0 := inv.s0
  have it : MO (some es) mT 2 oT := inv.t
  have it2 : MO (some es) mT2 5 oT2 := inv.t2
  have iq : QO Q q 3 oQ := inv.qq
  have iq1 : QO Q q1 6 oQ1 := inv.q1
  have ii : QO (Option.map (fun L => (L, 0)) I) iv 7 oI := inv.i
  have io : QO (Option.map (fun L => (L, 0)) O) ov 8 oO := inv.o
  clear inv
  have it_ := it
  have it2_ := it2
  obtain ⟨rfl, bnA, ckA, rfl⟩ := it_
  obtain ⟨rfl, bnB, ckB, rfl⟩ := it2_
  obtain ⟨a, hidx, hld⟩ := W.at_ i hi
  have hsm := W.small
  have inv2 : Inv S (some (putM es (f i).2.1 (f i).2.2)) Q I O ⟨mS, (.map 2), q, mS0, q1, (.map 5), iv, ov, oO, oI, oQ1, (.map (mapE .u64 .u64 (putM es (f i).2.1 (f i).2.2)) (bnB ++ [ckB]) (ckB + 1)), oS0, oQ, (.map (mapE .u64 .u64 (putM es (f i).2.1 (f i).2.2)) (bnA ++ [ckA]) (ckA + 1)), oS⟩ := ⟨is, is0, MO.mk, MO.mk, iq, iq1, ii, io⟩
  have run := runX_sound mixed none_sound (b5a x n a i 0 0 0 (f i).1 (f i).2.1 (f i).2.2 (Int.ofNat (hv S (f i).2.1)) 0 oS (.map (mapE .u64 .u64 es) bnA ckA) oQ oS0 (.map (mapE .u64 .u64 es) bnB ckB) oQ1 oI oO (.map (mapE .u64 .u64 (putM es (f i).2.1 (f i).2.2)) (bnA ++ [ckA]) (ckA + 1)) (.map (mapE .u64 .u64 (putM es (f i).2.1 (f i).2.2)) (bnB ++ [ckB]) (ckB + 1)) .dead mS (.map 2) q mS0 (.map 5) q1 iv ov row) ⟨W.len _, lt_q _ _ _ (by simpa using hi), hidx, (hld _ rfl).1, op_q hop, hidx, (hld _ rfl).2.1, hasC rfl is rfl it.mp iq.ql, hidx, (hld _ rfl).2.1, hidx, (hld _ rfl).2.2, (Sound.to (D5a  rfl rfl is.mp iq.ql hx) rfl), hidx, (hld _ rfl).2.1, hidx, (hld _ rfl).2.2, (Sound.to (D5a  rfl rfl (.inl rfl) (.inl rfl) hx) rfl), hidx, (hld _ rfl).2.1, hasC rfl is rfl it.mp iq.ql, same_q _, wrapq _ rfl (by omega), trivial⟩
  refine ⟨_, inv2, fin run (fun b => b) inv2 rfl rfl rfl rfl rfl rfl (by decide) (by decide) W.nm rfl (by rw [inv2.t2.ren _ rfl]; rfl) (by rw [inv2.q1.ren _ rfl]; rfl) (by rw [inv2.s0.ren _ rfl]; rfl) (by rw [inv2.s.ren _ rfl, inv2.t.ren _ rfl, inv2.qq.ren _ rfl]; rfl) rfl rfl rfl rfl rfl rfl rfl rfl rfl ⟨.inr (.inr ⟨13, by decide, rfl⟩), .inr (.inr ⟨12, by decide, rfl⟩), .inr (.inr ⟨11, by decide, rfl⟩), .inr (.inr ⟨10, by decide, rfl⟩), .inr (.inr ⟨9, by decide, rfl⟩), .inr (.inr ⟨8, by decide, rfl⟩), .inr (.inr ⟨7, by decide, rfl⟩), .inr (.inr ⟨6, by decide, rfl⟩), .inr (.inr ⟨5, by decide, rfl⟩), .inr (.inr ⟨4, by decide, rfl⟩), .inr (.inr ⟨3, by decide, rfl⟩), .inr (.inr ⟨2, by decide, rfl⟩), .inr (.inr ⟨1, by decide, rfl⟩), .inr (.inr ⟨0, by decide, rfl⟩), trivial⟩ rfl (Nat.le_of_ble_eq_true rfl) (fun b h1 h2 => by rw [only0 h1 h2]; rfl) (W.xr _ rfl) W.xn (inv2.i.ren _ rfl) (inv2.o.ren _ rfl) ?_⟩
  unfold TA
  repeat (first | exact rfl | refine ⟨_, _, rfl, ?_, ?_⟩ | exact .inr ⟨rfl, rfl⟩ | exact .inl ⟨rfl, rfl⟩ | exact .inl ⟨W.na.1.symm, W.na.2⟩ | exact see_same _ | exact .inl ⟨ii.na.1.symm, ii.na.2⟩ | exact .inl ⟨io.na.1.symm, io.na.2⟩)
theorem gb5n {S : Option (List (Int × Int))} {Q : Option (List Int × Nat)} {I : Option (List Int)} {O : Option (List Int)} {st : St} (W : Rw x n row f) (hi : i < n) (inv : Inv S none Q I O st) (hop : (f i).1.tmod (Int.ofNat 8) = Int.ofNat 5) :
    ∃ st', Inv S (some [((f i).2.1, (f i).2.2)]) Q I O st' ∧ Go.Mini.Good Try.prog [(0, row)] (CA st row) ft (TA x st.iv st.ov i) (loopAt Try.prog 4 0) .normal (TA x st'.iv st'.ov (i + 1)) (CA st' row) ft := by
  obtain ⟨mS, mT, q, mS0, q1, mT2, iv, ov, oO, oI, oQ1, oT2, oS0, oQ, oT, oS⟩ := st
  have is : MO S mS 1 oS := inv.s
  have is0 : MO S mS0 4 oS0 := inv.s0
  have it : MO none mT 2 oT := inv.t
  have it2 : MO none mT2 5 oT2 := inv.t2
  have iq : QO Q q 3 oQ := inv.qq
  have iq1 : QO Q q1 6 oQ1 := inv.q1
  have ii : QO (Option.map (fun L => (L, 0)) I) iv 7 oI := inv.i
  have io : QO (Option.map (fun L => (L, 0)) O) ov 8 oO := inv.o
  clear inv
  have it_ := it
  have it2_ := it2
  obtain ⟨rfl, hcA⟩ := it_
  obtain ⟨rfl, hcB⟩ := it2_
  obtain ⟨a, hidx, hld⟩ := W.at_ i hi
  have hsm := W.small
  have inv2 : Inv S (some [((f i).2.1, (f i).2.2)]) Q I O ⟨mS, (.map 2), q, mS0, q1, (.map 5), iv, ov, oO, oI, oQ1, (.map [(.int .u64 (f i).2.1, .int .u64 (f i).2.2)] [0] 1), oS0, oQ, (.map [(.int .u64 (f i).2.1, .int .u64 (f i).2.2)] [0] 1), oS⟩ := ⟨is, is0, MO.mk (es := [((f i).2.1, (f i).2.2)]), MO.mk (es := [((f i).2.1, (f i).2.2)]), iq, iq1, ii, io⟩
  have run := runX_sound mixed none_sound (b5n x n a i 0 0 0 (f i).1 (f i).2.1 (f i).2.2 (Int.ofNat (hv S (f i).2.1)) 0 oS oT oQ oS0 oT2 oQ1 oI oO (.map [(.int .u64 (f i).2.1, .int .u64 (f i).2.2)] [0] 1) (.map [(.int .u64 (f i).2.1, .int .u64 (f i).2.2)] [0] 1) .dead mS .nilMap q mS0 .nilMap q1 iv ov row) ⟨W.len _, lt_q _ _ _ (by simpa using hi), hidx, (hld _ rfl).1, op_q hop, hidx, (hld _ rfl).2.1, hasC rfl is rfl it.mp iq.ql, hidx, (hld _ rfl).2.1, hidx, (hld _ rfl).2.2, (Sound.to (D5n  rfl is.mp iq.ql) rfl), hidx, (hld _ rfl).2.1, hidx, (hld _ rfl).2.2, (Sound.to (D5n  rfl (.inl rfl) (.inl rfl)) rfl), hidx, (hld _ rfl).2.1, hasC rfl is rfl (.inr ⟨_, rfl⟩) iq.ql, same_q _, wrapq _ rfl (by omega), trivial⟩
  refine ⟨_, inv2, fin run (fun b => if b = 2 then 14 else if b = 5 then 15 else b) inv2 rfl rfl rfl rfl rfl rfl (by decide) (by decide) W.nm rfl rfl (by rw [inv2.q1.ren _ rfl]; rfl) (by rw [inv2.s0.ren _ rfl]; rfl) (by rw [inv2.s.ren _ rfl, inv2.qq.ren _ rfl]; rfl) rfl rfl rfl rfl rfl rfl rfl rfl rfl ⟨.inr (.inr ⟨5, by decide, rfl⟩), .inr (.inr ⟨2, by decide, rfl⟩), .inr (.inr ⟨13, by decide, rfl⟩), .inr (.inr ⟨12, by decide, rfl⟩), .inr (.inr ⟨11, by decide, rfl⟩), .inr (.inr ⟨10, by decide, rfl⟩), .inr (.inr ⟨9, by decide, rfl⟩), .inr (.inr ⟨8, by decide, rfl⟩), .inr (.inr ⟨7, by decide, rfl⟩), .inr (.inr ⟨6, by decide, rfl⟩), .inr (.inl hcB), .inr (.inr ⟨4, by decide, rfl⟩), .inr (.inr ⟨3, by decide, rfl⟩), .inr (.inl hcA), .inr (.inr ⟨1, by decide, rfl⟩), .inr (.inr ⟨0, by decide, rfl⟩), trivial⟩ rfl (Nat.le_of_ble_eq_true rfl) (fun b h1 h2 => by rw [only0 h1 h2]; rfl) (W.xr _ rfl) W.xn (inv2.i.ren _ rfl) (inv2.o.ren _ rfl) ?_⟩
  unfold TA
  repeat (first | exact rfl | refine ⟨_, _, rfl, ?_, ?_⟩ | exact .inr ⟨rfl, rfl⟩ | exact .inl ⟨rfl, rfl⟩ | exact .inl ⟨W.na.1.symm, W.na.2⟩ | exact see_same _ | exact .inl ⟨ii.na.1.symm, ii.na.2⟩ | exact .inl ⟨io.na.1.symm, io.na.2⟩)
theorem gb6y {S : Option (List (Int × Int))} {Q : Option (List Int × Nat)} {I : Option (List Int)} {O : Option (List Int)} {es : List (Int × Int)} {y : Int} {st : St} (W : Rw x n row f) (hi : i < n) (inv : Inv S (some es) Q I O st) (hop : (f i).1.tmod (Int.ofNat 8) = Int.ofNat 6) (hx : getM es (f i).2.1 = some y) (_ : getM (delM es (f i).2.1) (f i).2.1 = none) :
    ∃ st', Inv S (some (delM es (f i).2.1)) Q I O st' ∧ Go.Mini.Good Try.prog [(0, row)] (CA st row) ft (TA x st.iv st.ov i) (loopAt Try.prog 4 0) .normal (TA x st'.iv st'.ov (i + 1)) (CA st' row) ft := by
  obtain ⟨mS, mT, q, mS0, q1, mT2, iv, ov, oO, oI, oQ1, oT2, oS0, oQ, oT, oS⟩ := st
  have is : MO S mS 1 oS := inv.s
  have is0 : MO S mS0 4 oS0 := inv.s0
  have it : MO (some es) mT 2 oT := inv.t
  have it2 : MO (some es) mT2 5 oT2 := inv.t2
  have iq : QO Q q 3 oQ := inv.qq
  have iq1 : QO Q q1 6 oQ1 := inv.q1
  have ii : QO (Option.map (fun L => (L, 0)) I) iv 7 oI := inv.i
  have io : QO (Option.map (fun L => (L, 0)) O) ov 8 oO := inv.o
  clear inv
  have it_ := it
  have it2_ := it2
  obtain ⟨rfl, bnA, ckA, rfl⟩ := it_
  obtain ⟨rfl, bnB, ckB, rfl⟩ := it2_
  obtain ⟨a, hidx, hld⟩ := W.at_ i hi
  have hsm := W.small
  have inv2 : Inv S (some (delM es (f i).2.1)) Q I O ⟨mS, (.map 2), q, mS0, q1, (.map 5), iv, ov, oO, oI, oQ1, (.map (mapE .u64 .u64 (delM es (f i).2.1)) (bnB.eraseIdx (posM es (f i).2.1)) ckB), oS0, oQ, (.map (mapE .u64 .u64 (delM es (f i).2.1)) (bnA.eraseIdx (posM es (f i).2.1)) ckA), oS⟩ := ⟨is, is0, MO.mk, MO.mk, iq, iq1, ii, io⟩
  have run := runX_sound mixed none_sound (b6y x n a i 0 0 0 (f i).1 (f i).2.1 (f i).2.2 (Int.ofNat (hv S (f i).2.1)) 0 oS (.map (mapE .u64 .u64 es) bnA ckA) oQ oS0 (.map (mapE .u64 .u64 es) bnB ckB) oQ1 oI oO (.map (mapE .u64 .u64 (delM es (f i).2.1)) (bnA.eraseIdx (posM es (f i).2.1)) ckA) (.map (mapE .u64 .u64 (delM es (f i).2.1)) (bnB.eraseIdx (posM es (f i).2.1)) ckB) .dead mS (.map 2) q mS0 (.map 5) q1 iv ov row) ⟨W.len _, lt_q _ _ _ (by simpa using hi), hidx, (hld _ rfl).1, op_q hop, hidx, (hld _ rfl).2.1, hasC rfl is rfl it.mp iq.ql, hidx, (hld _ rfl).2.1, hidx, (hld _ rfl).2.2, (Sound.to (D6y  rfl rfl is.mp iq.ql hx) rfl), hidx, (hld _ rfl).2.1, hidx, (hld _ rfl).2.2, (Sound.to (D6y  rfl rfl (.inl rfl) (.inl rfl) hx) rfl), hidx, (hld _ rfl).2.1, hasC rfl is rfl it.mp iq.ql, same_q _, wrapq _ rfl (by omega), trivial⟩
  refine ⟨_, inv2, fin run (fun b => b) inv2 rfl rfl rfl rfl rfl rfl (by decide) (by decide) W.nm rfl (by rw [inv2.t2.ren _ rfl]; rfl) (by rw [inv2.q1.ren _ rfl]; rfl) (by rw [inv2.s0.ren _ rfl]; rfl) (by rw [inv2.s.ren _ rfl, inv2.t.ren _ rfl, inv2.qq.ren _ rfl]; rfl) rfl rfl rfl rfl rfl rfl rfl rfl rfl ⟨.inr (.inr ⟨13, by decide, rfl⟩), .inr (.inr ⟨12, by decide, rfl⟩), .inr (.inr ⟨11, by decide, rfl⟩), .inr (.inr ⟨10, by decide, rfl⟩), .inr (.inr ⟨9, by decide, rfl⟩), .inr (.inr ⟨8, by decide, rfl⟩), .inr (.inr ⟨7, by decide, rfl⟩), .inr (.inr ⟨6, by decide, rfl⟩), .inr (.inr ⟨5, by decide, rfl⟩), .inr (.inr ⟨4, by decide, rfl⟩), .inr (.inr ⟨3, by decide, rfl⟩), .inr (.inr ⟨2, by decide, rfl⟩), .inr (.inr ⟨1, by decide, rfl⟩), .inr (.inr ⟨0, by decide, rfl⟩), trivial⟩ rfl (Nat.le_of_ble_eq_true rfl) (fun b h1 h2 => by rw [only0 h1 h2]; rfl) (W.xr _ rfl) W.xn (inv2.i.ren _ rfl) (inv2.o.ren _ rfl) ?_⟩
  unfold TA
  repeat (first | exact rfl | refine ⟨_, _, rfl, ?_, ?_⟩ | exact .inr ⟨rfl, rfl⟩ | exact .inl ⟨rfl, rfl⟩ | exact .inl ⟨W.na.1.symm, W.na.2⟩ | exact see_same _ | exact .inl ⟨ii.na.1.symm, ii.na.2⟩ | exact .inl ⟨io.na.1.symm, io.na.2⟩)
theorem gb6a {S : Option (List (Int × Int))} {T : Option (List (Int × Int))} {Q : Option (List Int × Nat)} {I : Option (List Int)} {O : Option (List Int)} {st : St} (W : Rw x n row f) (hi : i < n) (inv : Inv S T Q I O st) (hop : (f i).1.tmod (Int.ofNat 8) = Int.ofNat 6) (hx : getM (T.getD []) (f i).2.1 = none) :
    ∃ st', Inv S T Q I O st' ∧ Go.Mini.Good Try.prog [(0, row)] (CA st row) ft (TA x st.iv st.ov i) (loopAt Try.prog 4 0) .normal (TA x st'.iv st'.ov (i + 1)) (CA st' row) ft := by
  obtain ⟨mS, mT, q, mS0, q1, mT2, iv, ov, oO, oI, oQ1, oT2, oS0, oQ, oT, oS⟩ := st
  have is : MO S mS 1 oS := inv.s
  have is0 : MO S mS0 4 oS0 := inv.s0
  have it : MO T mT 2 oT := inv.t
  have it2 : MO T mT2 5 oT2 := inv.t2
  have iq : QO Q q 3 oQ := inv.qq
  have iq1 : QO Q q1 6 oQ1 := inv.q1
  have ii : QO (Option.map (fun L => (L, 0)) I) iv 7 oI := inv.i
  have io : QO (Option.map (fun L => (L, 0)) O) ov 8 oO := inv.o
  clear inv
  obtain ⟨a, hidx, hld⟩ := W.at_ i hi
  have hsm := W.small
  have inv2 : Inv S T Q I O ⟨mS, mT, q, mS0, q1, mT2, iv, ov, oO, oI, oQ1, oT2, oS0, oQ, oT, oS⟩ := ⟨is, is0, it, it2, iq, iq1, ii, io⟩
  have run := runX_sound mixed none_sound (b6a x n a i 0 0 0 (f i).1 (f i).2.1 (f i).2.2 (Int.ofNat (hv S (f i).2.1)) 0 oS oT oQ oS0 oT2 oQ1 oI oO .dead .dead .dead mS mT q mS0 mT2 q1 iv ov row) ⟨W.len _, lt_q _ _ _ (by simpa using hi), hidx, (hld _ rfl).1, op_q hop, hidx, (hld _ rfl).2.1, hasC rfl is rfl it.mp iq.ql, hidx, (hld _ rfl).2.1, hidx, (hld _ rfl).2.2, delT rfl it rfl is.mp iq.ql hx, hidx, (hld _ rfl).2.1, hidx, (hld _ rfl).2.2, delT rfl it2 rfl (.inl rfl) (.inl rfl) hx, hidx, (hld _ rfl).2.1, hasC rfl is rfl it.mp iq.ql, same_q _, wrapq _ rfl (by omega), trivial⟩
  refine ⟨_, inv2, fin run (fun b => b) inv2 rfl rfl rfl rfl rfl rfl (by decide) (by decide) W.nm rfl (by rw [inv2.t2.ren _ rfl]; rfl) (by rw [inv2.q1.ren _ rfl]; rfl) (by rw [inv2.s0.ren _ rfl]; rfl) (by rw [inv2.s.ren _ rfl, inv2.t.ren _ rfl, inv2.qq.ren _ rfl]; rfl) rfl rfl rfl rfl rfl rfl rfl rfl rfl ⟨.inr (.inr ⟨13, by decide, rfl⟩), .inr (.inr ⟨12, by decide, rfl⟩), .inr (.inr ⟨11, by decide, rfl⟩), .inr (.inr ⟨10, by decide, rfl⟩), .inr (.inr ⟨9, by decide, rfl⟩), .inr (.inr ⟨8, by decide, rfl⟩), .inr (.inr ⟨7, by decide, rfl⟩), .inr (.inr ⟨6, by decide, rfl⟩), .inr (.inr ⟨5, by decide, rfl⟩), .inr (.inr ⟨4, by decide, rfl⟩), .inr (.inr ⟨3, by decide, rfl⟩), .inr (.inr ⟨2, by decide, rfl⟩), .inr (.inr ⟨1, by decide, rfl⟩), .inr (.inr ⟨0, by decide, rfl⟩), trivial⟩ rfl (Nat.le_of_ble_eq_true rfl) (fun b h1 h2 => by rw [only0 h1 h2]; rfl) (W.xr _ rfl) W.xn (inv2.i.ren _ rfl) (inv2.o.ren _ rfl) ?_⟩
  unfold TA
  repeat (first | exact rfl | refine ⟨_, _, rfl, ?_, ?_⟩ | exact .inr ⟨rfl, rfl⟩ | exact .inl ⟨rfl, rfl⟩ | exact .inl ⟨W.na.1.symm, W.na.2⟩ | exact see_same _ | exact .inl ⟨ii.na.1.symm, ii.na.2⟩ | exact .inl ⟨io.na.1.symm, io.na.2⟩)
theorem gb7y {S : Option (List (Int × Int))} {Q : Option (List Int × Nat)} {I : Option (List Int)} {O : Option (List Int)} {es : List (Int × Int)} {y : Int} {st : St} (W : Rw x n row f) (hi : i < n) (inv : Inv S (some es) Q I O st) (hop : (f i).1.tmod (Int.ofNat 8) = Int.ofNat 7) (hx : getM es (f i).2.1 = some y) :
    ∃ st', Inv S (some es) Q I O st' ∧ Go.Mini.Good Try.prog [(0, row)] (CA st row) ft (TA x st.iv st.ov i) (loopAt Try.prog 4 0) .normal (TA x st'.iv st'.ov (i + 1)) (CA st' row) ft := by
  obtain ⟨mS, mT, q, mS0, q1, mT2, iv, ov, oO, oI, oQ1, oT2, oS0, oQ, oT, oS⟩ := st
  have is : MO S mS 1 oS := inv.s
  have is0 : MO S mS0 4 oS0 := inv.s0
  have it : MO (some es) mT 2 oT := inv.t
  have it2 : MO (some es) mT2 5 oT2 := inv.t2
  have iq : QO Q q 3 oQ := inv.qq
  have iq1 : QO Q q1 6 oQ1 := inv.q1
  have ii : QO (Option.map (fun L => (L, 0)) I) iv 7 oI := inv.i
  have io : QO (Option.map (fun L => (L, 0)) O) ov 8 oO := inv.o
  clear inv
  have it_ := it
  have it2_ := it2
  obtain ⟨rfl, bnA, ckA, rfl⟩ := it_
  obtain ⟨rfl, bnB, ckB, rfl⟩ := it2_
  obtain ⟨a, hidx, hld⟩ := W.at_ i hi
  have hsm := W.small
  have inv2 : Inv S (some es) Q I O ⟨mS, (.map 2), q, mS0, q1, (.map 5), iv, ov, oO, oI, oQ1, (.map (mapE .u64 .u64 es) bnB ckB), oS0, oQ, (.map (mapE .u64 .u64 es) bnA ckA), oS⟩ := ⟨is, is0, it, it2, iq, iq1, ii, io⟩
  have run := runX_sound mixed none_sound (b7y x n a i 0 0 0 (f i).1 (f i).2.1 (f i).2.2 (Int.ofNat (hv S (f i).2.1)) y oS (.map (mapE .u64 .u64 es) bnA ckA) oQ oS0 (.map (mapE .u64 .u64 es) bnB ckB) oQ1 oI oO .dead .dead .dead mS (.map 2) q mS0 (.map 5) q1 iv ov row) ⟨W.len _, lt_q _ _ _ (by simpa using hi), hidx, (hld _ rfl).1, op_q hop, hidx, (hld _ rfl).2.1, hasC rfl is rfl it.mp iq.ql, hidx, (hld _ rfl).2.1, hidx, (hld _ rfl).2.2, D7y  rfl rfl is.mp iq.ql hx, hidx, (hld _ rfl).2.1, hidx, (hld _ rfl).2.2, D7y  rfl rfl (.inl rfl) (.inl rfl) hx, hidx, (hld _ rfl).2.1, hasC rfl is rfl it.mp iq.ql, same_q _, same_q _, wrapq _ rfl (by omega), trivial⟩
  refine ⟨_, inv2, fin run (fun b => b) inv2 rfl rfl rfl rfl rfl rfl (by decide) (by decide) W.nm rfl (by rw [inv2.t2.ren _ rfl]; rfl) (by rw [inv2.q1.ren _ rfl]; rfl) (by rw [inv2.s0.ren _ rfl]; rfl) (by rw [inv2.s.ren _ rfl, inv2.t.ren _ rfl, inv2.qq.ren _ rfl]; rfl) rfl rfl rfl rfl rfl rfl rfl rfl rfl ⟨.inr (.inr ⟨13, by decide, rfl⟩), .inr (.inr ⟨12, by decide, rfl⟩), .inr (.inr ⟨11, by decide, rfl⟩), .inr (.inr ⟨10, by decide, rfl⟩), .inr (.inr ⟨9, by decide, rfl⟩), .inr (.inr ⟨8, by decide, rfl⟩), .inr (.inr ⟨7, by decide, rfl⟩), .inr (.inr ⟨6, by decide, rfl⟩), .inr (.inr ⟨5, by decide, rfl⟩), .inr (.inr ⟨4, by decide, rfl⟩), .inr (.inr ⟨3, by decide, rfl⟩), .inr (.inr ⟨2, by decide, rfl⟩), .inr (.inr ⟨1, by decide, rfl⟩), .inr (.inr ⟨0, by decide, rfl⟩), trivial⟩ rfl (Nat.le_of_ble_eq_true rfl) (fun b h1 h2 => by rw [only0 h1 h2]; rfl) (W.xr _ rfl) W.xn (inv2.i.ren _ rfl) (inv2.o.ren _ rfl) ?_⟩
  unfold TA
  repeat (first | exact rfl | refine ⟨_, _, rfl, ?_, ?_⟩ | exact .inr ⟨rfl, rfl⟩ | exact .inl ⟨rfl, rfl⟩ | exact .inl ⟨W.na.1.symm, W.na.2⟩ | exact see_same _ | exact .inl ⟨ii.na.1.symm, ii.na.2⟩ | exact .inl ⟨io.na.1.symm, io.na.2⟩)
theorem gb7a {S : Option (List (Int × Int))} {T : Option (List (Int × Int))} {Q : Option (List Int × Nat)} {I : Option (List Int)} {O : Option (List Int)} {st : St} (W : Rw x n row f) (hi : i < n) (inv : Inv S T Q I O st) (hop : (f i).1.tmod (Int.ofNat 8) = Int.ofNat 7) (hx : getM (T.getD []) (f i).2.1 = none) :
    ∃ st', Inv S T Q I O st' ∧ Go.Mini.Good Try.prog [(0, row)] (CA st row) ft (TA x st.iv st.ov i) (loopAt Try.prog 4 0) .normal (TA x st'.iv st'.ov (i + 1)) (CA st' row) ft := by
  obtain ⟨mS, mT, q, mS0, q1, mT2, iv, ov, oO, oI, oQ1, oT2, oS0, oQ, oT, oS⟩ := st
  have is : MO S mS 1 oS := inv.s
  have is0 : MO S mS0 4 oS0 := inv.s0
  have it : MO T mT 2 oT := inv.t
  have it2 : MO T mT2 5 oT2 := inv.t2
  have iq : QO Q q 3 oQ := inv.qq
  have iq1 : QO Q q1 6 oQ1 := inv.q1
  have ii : QO (Option.map (fun L => (L, 0)) I) iv 7 oI := inv.i
  have io : QO (Option.map (fun L => (L, 0)) O) ov 8 oO := inv.o
  clear inv
  obtain ⟨a, hidx, hld⟩ := W.at_ i hi
  have hsm := W.small
  have inv2 : Inv S T Q I O ⟨mS, mT, q, mS0, q1, mT2, iv, ov, oO, oI, oQ1, oT2, oS0, oQ, oT, oS⟩ := ⟨is, is0, it, it2, iq, iq1, ii, io⟩
  have run := runX_sound mixed none_sound (b7a x n a i 0 0 0 (f i).1 (f i).2.1 (f i).2.2 (Int.ofNat (hv S (f i).2.1)) 0 oS oT oQ oS0 oT2 oQ1 oI oO .dead .dead .dead mS mT q mS0 mT2 q1 iv ov row) ⟨W.len _, lt_q _ _ _ (by simpa using hi), hidx, (hld _ rfl).1, op_q hop, hidx, (hld _ rfl).2.1, hasC rfl is rfl it.mp iq.ql, hidx, (hld _ rfl).2.1, hidx, (hld _ rfl).2.2, getT rfl it rfl is.mp iq.ql hx, hidx, (hld _ rfl).2.1, hidx, (hld _ rfl).2.2, getT rfl it2 rfl (.inl rfl) (.inl rfl) hx, hidx, (hld _ rfl).2.1, hasC rfl is rfl it.mp iq.ql, same_q _, wrapq _ rfl (by omega), trivial⟩
  refine ⟨_, inv2, fin run (fun b => b) inv2 rfl rfl rfl rfl rfl rfl (by decide) (by decide) W.nm rfl (by rw [inv2.t2.ren _ rfl]; rfl) (by rw [inv2.q1.ren _ rfl]; rfl) (by rw [inv2.s0.ren _ rfl]; rfl) (by rw [inv2.s.ren _ rfl, inv2.t.ren _ rfl, inv2.qq.ren _ rfl]; rfl) rfl rfl rfl rfl rfl rfl rfl rfl rfl ⟨.inr (.inr ⟨13, by decide, rfl⟩), .inr (.inr ⟨12, by decide, rfl⟩), .inr (.inr ⟨11, by decide, rfl⟩), .inr (.inr ⟨10, by decide, rfl⟩), .inr (.inr ⟨9, by decide, rfl⟩), .inr (.inr ⟨8, by decide, rfl⟩), .inr (.inr ⟨7, by decide, rfl⟩), .inr (.inr ⟨6, by decide, rfl⟩), .inr (.inr ⟨5, by decide, rfl⟩), .inr (.inr ⟨4, by decide, rfl⟩), .inr (.inr ⟨3, by decide, rfl⟩), .inr (.inr ⟨2, by decide, rfl⟩), .inr (.inr ⟨1, by decide, rfl⟩), .inr (.inr ⟨0, by decide, rfl⟩), trivial⟩ rfl (Nat.le_of_ble_eq_true rfl) (fun b h1 h2 => by rw [only0 h1 h2]; rfl) (W.xr _ rfl) W.xn (inv2.i.ren _ rfl) (inv2.o.ren _ rfl) ?_⟩
  unfold TA
  repeat (first | exact rfl | refine ⟨_, _, rfl, ?_, ?_⟩ | exact .inr ⟨rfl, rfl⟩ | exact .inl ⟨rfl, rfl⟩ | exact .inl ⟨W.na.1.symm, W.na.2⟩ | exact see_same _ | exact .inl ⟨ii.na.1.symm, ii.na.2⟩ | exact .inl ⟨io.na.1.symm, io.na.2⟩)
theorem gb3n {S : Option (List (Int × Int))} {T : Option (List (Int × Int))} {O : Option (List Int)} {st : St} (W : Rw x n row f) (hi : i < n) (inv : Inv S T none none O st) (hop : (f i).1.tmod (Int.ofNat 8) = Int.ofNat 3) :
    ∃ st', Inv S T (some ([(f i).2.2], 0)) (some [(f i).2.2]) O st' ∧ Go.Mini.Good Try.prog [(0, row)] (CA st row) ft (TA x st.iv st.ov i) (loopAt Try.prog 4 0) .normal (TA x st'.iv st'.ov (i + 1)) (CA st' row) ft := by
  obtain ⟨mS, mT, q, mS0, q1, mT2, iv, ov, oO, oI, oQ1, oT2, oS0, oQ, oT, oS⟩ := st
  have is : MO S mS 1 oS := inv.s
  have is0 : MO S mS0 4 oS0 := inv.s0
  have it : MO T mT 2 oT := inv.t
  have it2 : MO T mT2 5 oT2 := inv.t2
  have iq : QO none q 3 oQ := inv.qq
  have iq1 : QO none q1 6 oQ1 := inv.q1
  have ii : QO (Option.map (fun L => (L, 0)) none) iv 7 oI := inv.i
  have io : QO (Option.map (fun L => (L, 0)) O) ov 8 oO := inv.o
  clear inv
  have iq_ := iq
  have iq1_ := iq1
  have ii_ := ii
  obtain ⟨rfl, hcQ⟩ := iq_
  obtain ⟨rfl, hcQ1⟩ := iq1_
  obtain ⟨rfl, hcI⟩ := ii_
  obtain ⟨a, hidx, hld⟩ := W.at_ i hi
  have hsm := W.small
  have inv2 : Inv S T (some ([(f i).2.2], 0)) (some [(f i).2.2]) O ⟨mS, mT, (.osl 3 0 1 1), mS0, (.osl 6 0 1 1), mT2, (.osl 7 0 1 1), ov, oO, (.cells false [.int .u64 (f i).2.2]), (.cells false [.int .u64 (f i).2.2]), oT2, oS0, (.cells false [.int .u64 (f i).2.2]), oT, oS⟩ := ⟨is, is0, it, it2, QO.mk (R := [(f i).2.2]) rfl (Nat.zero_le _), QO.mk (R := [(f i).2.2]) rfl (Nat.zero_le _), QO.mk (R := [(f i).2.2]) rfl (Nat.zero_le _), io⟩
  have run := runX_sound mixed none_sound (b3n x n a i 0 0 0 (f i).1 (f i).2.1 (f i).2.2 (Int.ofNat (hv S (f i).2.1)) 0 oS oT oQ oS0 oT2 oQ1 oI oO (.cells false [.int .u64 (f i).2.2]) (.cells false [.int .u64 (f i).2.2]) .dead mS mT .nilSlice mS0 mT2 .nilSlice .nilSlice ov row) ⟨W.len _, lt_q _ _ _ (by simpa using hi), hidx, (hld _ rfl).1, op_q hop, hidx, (hld _ rfl).2.1, hasC rfl is rfl it.mp iq.ql, hidx, (hld _ rfl).2.1, hidx, (hld _ rfl).2.2, (Sound.to (D3n  rfl is.mp it.mp) rfl), hidx, (hld _ rfl).2.1, hidx, (hld _ rfl).2.2, (Sound.to (D3n  rfl (.inl rfl) (.inl rfl)) rfl), hidx, (hld _ rfl).2.1, hasC rfl is rfl it.mp (by first | exact iq.ql | exact .inr ⟨_, _, _, rfl⟩), same_q _, hidx, (hld _ rfl).2.2, wrapq _ rfl (by omega), trivial⟩
  refine ⟨_, inv2, fin run (fun b => if b = 3 then 14 else if b = 6 then 15 else if b = 7 then 17 else b) inv2 rfl rfl rfl rfl rfl rfl (by decide) (by decide) W.nm rfl (by rw [inv2.t2.ren _ rfl]; rfl) rfl (by rw [inv2.s0.ren _ rfl]; rfl) (by rw [inv2.s.ren _ rfl, inv2.t.ren _ rfl]; rfl) rfl rfl rfl rfl rfl rfl rfl rfl rfl ⟨.inr (.inr ⟨7, by decide, rfl⟩), .inr (.inl ⟨rfl, rfl⟩), .inr (.inr ⟨6, by decide, rfl⟩), .inr (.inr ⟨3, by decide, rfl⟩), .inr (.inr ⟨13, by decide, rfl⟩), .inr (.inr ⟨12, by decide, rfl⟩), .inr (.inr ⟨11, by decide, rfl⟩), .inr (.inr ⟨10, by decide, rfl⟩), .inr (.inr ⟨9, by decide, rfl⟩), .inr (.inr ⟨8, by decide, rfl⟩), .inr (.inl hcI), .inr (.inl hcQ1), .inr (.inr ⟨5, by decide, rfl⟩), .inr (.inr ⟨4, by decide, rfl⟩), .inr (.inl hcQ), .inr (.inr ⟨2, by decide, rfl⟩), .inr (.inr ⟨1, by decide, rfl⟩), .inr (.inr ⟨0, by decide, rfl⟩), trivial⟩ rfl (Nat.le_of_ble_eq_true rfl) (fun b h1 h2 => by rw [only0 h1 h2]; rfl) (W.xr _ rfl) W.xn rfl (inv2.o.ren _ rfl) ?_⟩
  unfold TA
  repeat (first | exact rfl | refine ⟨_, _, rfl, ?_, ?_⟩ | exact .inr ⟨rfl, rfl⟩ | exact .inl ⟨rfl, rfl⟩ | exact .inl ⟨W.na.1.symm, W.na.2⟩ | exact see_same _ | exact .inl ⟨ii.na.1.symm, ii.na.2⟩ | exact .inl ⟨io.na.1.symm, io.na.2⟩)
theorem gb3s {S : Option (List (Int × Int))} {T : Option (List (Int × Int))} {O : Option (List Int)} {R : List Int} {L : List Int} {kk : Nat} {st : St} (W : Rw x n row f) (hi : i < n) (inv : Inv S T (some (R, kk)) (some L) O st) (hop : (f i).1.tmod (Int.ofNat 8) = Int.ofNat 3) (hb : R.length < 16777216) (hl : L.length < 16777216) :
    ∃ st', Inv S T (some (R.drop kk ++ [(f i).2.2], 0)) (some (L.drop 0 ++ [(f i).2.2])) O st' ∧ Go.Mini.Good Try.prog [(0, row)] (CA st row) ft (TA x st.iv st.ov i) (loopAt Try.prog 4 0) .normal (TA x st'.iv st'.ov (i + 1)) (CA st' row) ft := by
  obtain ⟨mS, mT, q, mS0, q1, mT2, iv, ov, oO, oI, oQ1, oT2, oS0, oQ, oT, oS⟩ := st
  have is : MO S mS 1 oS := inv.s
  have is0 : MO S mS0 4 oS0 := inv.s0
  have it : MO T mT 2 oT := inv.t
  have it2 : MO T mT2 5 oT2 := inv.t2
  have iq : QO (some (R, kk)) q 3 oQ := inv.qq
  have iq1 : QO (some (R, kk)) q1 6 oQ1 := inv.q1
  have ii : QO (Option.map (fun L => (L, 0)) (some L)) iv 7 oI := inv.i
  have io : QO (Option.map (fun L => (L, 0)) O) ov 8 oO := inv.o
  clear inv
  have iq_ := iq
  have iq1_ := iq1
  obtain ⟨rfl, rfl, hkk⟩ := iq_
  obtain ⟨rfl, rfl, _⟩ := iq1_
  have ii_ := ii
  obtain ⟨rfl, rfl, _⟩ := ii_
  obtain ⟨a, hidx, hld⟩ := W.at_ i hi
  have hsm := W.small
  have inv2 : Inv S T (some (R.drop kk ++ [(f i).2.2], 0)) (some (L.drop 0 ++ [(f i).2.2])) O ⟨mS, mT, (.osl 3 0 (R.length - kk + 1) 1), mS0, (.osl 6 0 (R.length - kk + 1) 1), mT2, (.osl 7 0 (L.length - 0 + 1) 1), ov, oO, (.cells false (uc (L.drop 0 ++ [(f i).2.2]))), (.cells false (uc (R.drop kk ++ [(f i).2.2]))), oT2, oS0, (.cells false (uc (R.drop kk ++ [(f i).2.2]))), oT, oS⟩ := ⟨is, is0, it, it2, QO.mk (R := R.drop kk ++ [(f i).2.2]) (by simp) (Nat.zero_le _), QO.mk (R := R.drop kk ++ [(f i).2.2]) (by simp) (Nat.zero_le _), QO.mk (R := L.drop 0 ++ [(f i).2.2]) (by simp) (Nat.zero_le _), io⟩
  have run := runX_sound mixed none_sound (b3s x n a i kk (R.length - kk) (L.length - 0) (f i).1 (f i).2.1 (f i).2.2 (Int.ofNat (hv S (f i).2.1)) 0 oS oT (.cells false (uc R)) oS0 oT2 (.cells false (uc R)) (.cells false (uc L)) oO (.cells false (uc (R.drop kk ++ [(f i).2.2]))) (.cells false (uc (R.drop kk ++ [(f i).2.2]))) (.cells false (uc (L.drop 0 ++ [(f i).2.2]))) mS mT (.osl 3 kk (R.length - kk) 1) mS0 mT2 (.osl 6 kk (R.length - kk) 1) (.osl 7 0 (L.length - 0) 1) ov row) ⟨W.len _, lt_q _ _ _ (by simpa using hi), hidx, (hld _ rfl).1, op_q hop, hidx, (hld _ rfl).2.1, hasC rfl is rfl it.mp iq.ql, hidx, (hld _ rfl).2.1, hidx, (hld _ rfl).2.2, (Sound.to (D3s  rfl rfl is.mp it.mp (by decide) (by omega) (by omega)) rfl), hidx, (hld _ rfl).2.1, hidx, (hld _ rfl).2.2, (Sound.to (D3s  rfl rfl (.inl rfl) (.inl rfl) (by decide) (by omega) (by omega)) rfl), hidx, (hld _ rfl).2.1, hasC rfl is rfl it.mp (by first | exact iq.ql | exact .inr ⟨_, _, _, rfl⟩), same_q _, hidx, (hld _ rfl).2.2, app_off rfl (by omega) rfl (by omega), wrapq _ rfl (by omega), trivial⟩
  refine ⟨_, inv2, fin run (fun b => if b = 3 then 14 else if b = 6 then 15 else if b = 7 then 17 else b) inv2 rfl rfl rfl rfl rfl rfl (by decide) (by decide) W.nm rfl (by rw [inv2.t2.ren _ rfl]; rfl) rfl (by rw [inv2.s0.ren _ rfl]; rfl) (by rw [inv2.s.ren _ rfl, inv2.t.ren _ rfl]; rfl) rfl rfl rfl rfl rfl rfl rfl rfl rfl ⟨.inr (.inr ⟨7, by decide, rfl⟩), .inr (.inl ⟨rfl, rfl⟩), .inr (.inr ⟨6, by decide, rfl⟩), .inr (.inr ⟨3, by decide, rfl⟩), .inr (.inr ⟨13, by decide, rfl⟩), .inr (.inr ⟨12, by decide, rfl⟩), .inr (.inr ⟨11, by decide, rfl⟩), .inr (.inr ⟨10, by decide, rfl⟩), .inr (.inr ⟨9, by decide, rfl⟩), .inr (.inr ⟨8, by decide, rfl⟩), .inl rfl, .inl rfl, .inr (.inr ⟨5, by decide, rfl⟩), .inr (.inr ⟨4, by decide, rfl⟩), .inl rfl, .inr (.inr ⟨2, by decide, rfl⟩), .inr (.inr ⟨1, by decide, rfl⟩), .inr (.inr ⟨0, by decide, rfl⟩), trivial⟩ rfl (Nat.le_of_ble_eq_true rfl) (fun b h1 h2 => by rw [only0 h1 h2]; rfl) (W.xr _ rfl) W.xn rfl (inv2.o.ren _ rfl) ?_⟩
  unfold TA
  repeat (first | exact rfl | refine ⟨_, _, rfl, ?_, ?_⟩ | exact .inr ⟨rfl, rfl⟩ | exact .inl ⟨rfl, rfl⟩ | exact .inl ⟨W.na.1.symm, W.na.2⟩ | exact see_same _ | exact .inl ⟨ii.na.1.symm, ii.na.2⟩ | exact .inl ⟨io.na.1.symm, io.na.2⟩)
theorem gb4e {S : Option (List (Int × Int))} {T : Option (List (Int × Int))} {Q : Option (List Int × Nat)} {I : Option (List Int)} {O : Option (List Int)} {st : St} (W : Rw x n row f) (hi : i < n) (inv : Inv S T Q I O st) (hop : (f i).1.tmod (Int.ofNat 8) = Int.ofNat 4) (hx : ∀ z, Q = some z → z.1.length = z.2) :
    ∃ st', Inv S T Q I O st' ∧ Go.Mini.Good Try.prog [(0, row)] (CA st row) ft (TA x st.iv st.ov i) (loopAt Try.prog 4 0) .normal (TA x st'.iv st'.ov (i + 1)) (CA st' row) ft := by
  obtain ⟨mS, mT, q, mS0, q1, mT2, iv, ov, oO, oI, oQ1, oT2, oS0, oQ, oT, oS⟩ := st
  have is : MO S mS 1 oS := inv.s
  have is0 : MO S mS0 4 oS0 := inv.s0
  have it : MO T mT 2 oT := inv.t
  have it2 : MO T mT2 5 oT2 := inv.t2
  have iq : QO Q q 3 oQ := inv.qq
  have iq1 : QO Q q1 6 oQ1 := inv.q1
  have ii : QO (Option.map (fun L => (L, 0)) I) iv 7 oI := inv.i
  have io : QO (Option.map (fun L => (L, 0)) O) ov 8 oO := inv.o
  clear inv
  obtain ⟨a, hidx, hld⟩ := W.at_ i hi
  have hsm := W.small
  have inv2 : Inv S T Q I O ⟨mS, mT, q, mS0, q1, mT2, iv, ov, oO, oI, oQ1, oT2, oS0, oQ, oT, oS⟩ := ⟨is, is0, it, it2, iq, iq1, ii, io⟩
  have run := runX_sound mixed none_sound (b4e x n a i 0 0 0 (f i).1 (f i).2.1 (f i).2.2 (Int.ofNat (hv S (f i).2.1)) 0 oS oT oQ oS0 oT2 oQ1 oI oO .dead .dead .dead mS mT q mS0 mT2 q1 iv ov row) ⟨W.len _, lt_q _ _ _ (by simpa using hi), hidx, (hld _ rfl).1, op_q hop, hidx, (hld _ rfl).2.1, hasC rfl is rfl it.mp iq.ql, hidx, (hld _ rfl).2.1, hidx, (hld _ rfl).2.2, popE rfl iq rfl is.mp it.mp (by decide) hx, hidx, (hld _ rfl).2.1, hidx, (hld _ rfl).2.2, popE rfl iq1 rfl (.inl rfl) (.inl rfl) (by decide) hx, hidx, (hld _ rfl).2.1, hasC rfl is rfl it.mp iq.ql, same_q _, wrapq _ rfl (by omega), trivial⟩
  refine ⟨_, inv2, fin run (fun b => b) inv2 rfl rfl rfl rfl rfl rfl (by decide) (by decide) W.nm rfl (by rw [inv2.t2.ren _ rfl]; rfl) (by rw [inv2.q1.ren _ rfl]; rfl) (by rw [inv2.s0.ren _ rfl]; rfl) (by rw [inv2.s.ren _ rfl, inv2.t.ren _ rfl, inv2.qq.ren _ rfl]; rfl) rfl rfl rfl rfl rfl rfl rfl rfl rfl ⟨.inr (.inr ⟨13, by decide, rfl⟩), .inr (.inr ⟨12, by decide, rfl⟩), .inr (.inr ⟨11, by decide, rfl⟩), .inr (.inr ⟨10, by decide, rfl⟩), .inr (.inr ⟨9, by decide, rfl⟩), .inr (.inr ⟨8, by decide, rfl⟩), .inr (.inr ⟨7, by decide, rfl⟩), .inr (.inr ⟨6, by decide, rfl⟩), .inr (.inr ⟨5, by decide, rfl⟩), .inr (.inr ⟨4, by decide, rfl⟩), .inr (.inr ⟨3, by decide, rfl⟩), .inr (.inr ⟨2, by decide, rfl⟩), .inr (.inr ⟨1, by decide, rfl⟩), .inr (.inr ⟨0, by decide, rfl⟩), trivial⟩ rfl (Nat.le_of_ble_eq_true rfl) (fun b h1 h2 => by rw [only0 h1 h2]; rfl) (W.xr _ rfl) W.xn (inv2.i.ren _ rfl) (inv2.o.ren _ rfl) ?_⟩
  unfold TA
  repeat (first | exact rfl | refine ⟨_, _, rfl, ?_, ?_⟩ | exact .inr ⟨rfl, rfl⟩ | exact .inl ⟨rfl, rfl⟩ | exact .inl ⟨W.na.1.symm, W.na.2⟩ | exact see_same _ | exact .inl ⟨ii.na.1.symm, ii.na.2⟩ | exact .inl ⟨io.na.1.symm, io.na.2⟩)
theorem gb4n {S : Option (List (Int × Int))} {T : Option (List (Int × Int))} {I : Option (List Int)} {R : List Int} {kk : Nat} {y : Int} {st : St} (W : Rw x n row f) (hi : i < n) (inv : Inv S T (some (R, kk)) I none st) (hop : (f i).1.tmod (Int.ofNat 8) = Int.ofNat 4) (hx : R[kk]? = some y) (hkk1 : kk + 1 ≤ R.length) :
    ∃ st', Inv S T (some (R, kk + 1)) I (some [y]) st' ∧ Go.Mini.Good Try.prog [(0, row)] (CA st row) ft (TA x st.iv st.ov i) (loopAt Try.prog 4 0) .normal (TA x st'.iv st'.ov (i + 1)) (CA st' row) ft := by
  obtain ⟨mS, mT, q, mS0, q1, mT2, iv, ov, oO, oI, oQ1, oT2, oS0, oQ, oT, oS⟩ := st
  have is : MO S mS 1 oS := inv.s
  have is0 : MO S mS0 4 oS0 := inv.s0
  have it : MO T mT 2 oT := inv.t
  have it2 : MO T mT2 5 oT2 := inv.t2
  have iq : QO (some (R, kk)) q 3 oQ := inv.qq
  have iq1 : QO (some (R, kk)) q1 6 oQ1 := inv.q1
  have ii : QO (Option.map (fun L => (L, 0)) I) iv 7 oI := inv.i
  have io : QO (Option.map (fun L => (L, 0)) none) ov 8 oO := inv.o
  clear inv
  have iq_ := iq
  have iq1_ := iq1
  obtain ⟨rfl, rfl, hkk⟩ := iq_
  obtain ⟨rfl, rfl, _⟩ := iq1_
  have io_ := io
  obtain ⟨rfl, hcO⟩ := io_
  obtain ⟨a, hidx, hld⟩ := W.at_ i hi
  have hsm := W.small
  have inv2 : Inv S T (some (R, kk + 1)) I (some [y]) ⟨mS, mT, (.osl 3 (kk + 1) (R.length - kk - 1) 1), mS0, (.osl 6 (kk + 1) (R.length - kk - 1) 1), mT2, iv, (.osl 8 0 1 1), (.cells false [.int .u64 y]), oI, (.cells false (uc R)), oT2, oS0, (.cells false (uc R)), oT, oS⟩ := ⟨is, is0, it, it2, QO.mk (R := R) (by omega) hkk1, QO.mk (R := R) (by omega) hkk1, ii, QO.mk (R := [y]) rfl (Nat.zero_le _)⟩
  have run := runX_sound mixed none_sound (b4n x n a i kk (R.length - kk) 0 (f i).1 (f i).2.1 (f i).2.2 (Int.ofNat (hv S (f i).2.1)) y oS oT (.cells false (uc R)) oS0 oT2 (.cells false (uc R)) oI oO .dead .dead .dead mS mT (.osl 3 kk (R.length - kk) 1) mS0 mT2 (.osl 6 kk (R.length - kk) 1) iv .nilSlice row) ⟨W.len _, lt_q _ _ _ (by simpa using hi), hidx, (hld _ rfl).1, op_q hop, hidx, (hld _ rfl).2.1, hasC rfl is rfl it.mp iq.ql, hidx, (hld _ rfl).2.1, hidx, (hld _ rfl).2.2, (Sound.to (D4s rfl rfl is.mp it.mp (by decide) (by omega) hx) rfl), hidx, (hld _ rfl).2.1, hidx, (hld _ rfl).2.2, (Sound.to (D4s rfl rfl (.inl rfl) (.inl rfl) (by decide) (by omega) hx) rfl), hidx, (hld _ rfl).2.1, hasC rfl is rfl it.mp (by first | exact iq.ql | exact .inr ⟨_, _, _, rfl⟩), same_q _, same_q _, wrapq _ rfl (by omega), trivial⟩
  refine ⟨_, inv2, fin run (fun b => if b = 8 then 15 else b) inv2 rfl rfl rfl rfl rfl rfl (by decide) (by decide) W.nm rfl (by rw [inv2.t2.ren _ rfl]; rfl) (by rw [inv2.q1.ren _ rfl]; rfl) (by rw [inv2.s0.ren _ rfl]; rfl) (by rw [inv2.s.ren _ rfl, inv2.t.ren _ rfl, inv2.qq.ren _ rfl]; rfl) rfl rfl rfl rfl rfl rfl rfl rfl rfl ⟨.inr (.inr ⟨8, by decide, rfl⟩), .inr (.inl ⟨rfl, rfl⟩), .inr (.inr ⟨13, by decide, rfl⟩), .inr (.inr ⟨12, by decide, rfl⟩), .inr (.inr ⟨11, by decide, rfl⟩), .inr (.inr ⟨10, by decide, rfl⟩), .inr (.inr ⟨9, by decide, rfl⟩), .inr (.inl hcO), .inr (.inr ⟨7, by decide, rfl⟩), .inr (.inr ⟨6, by decide, rfl⟩), .inr (.inr ⟨5, by decide, rfl⟩), .inr (.inr ⟨4, by decide, rfl⟩), .inr (.inr ⟨3, by decide, rfl⟩), .inr (.inr ⟨2, by decide, rfl⟩), .inr (.inr ⟨1, by decide, rfl⟩), .inr (.inr ⟨0, by decide, rfl⟩), trivial⟩ rfl (Nat.le_of_ble_eq_true rfl) (fun b h1 h2 => by rw [only0 h1 h2]; rfl) (W.xr _ rfl) W.xn (inv2.i.ren _ rfl) rfl ?_⟩
  unfold TA
  repeat (first | exact rfl | refine ⟨_, _, rfl, ?_, ?_⟩ | exact .inr ⟨rfl, rfl⟩ | exact .inl ⟨rfl, rfl⟩ | exact .inl ⟨W.na.1.symm, W.na.2⟩ | exact see_same _ | exact .inl ⟨ii.na.1.symm, ii.na.2⟩ | exact .inl ⟨io.na.1.symm, io.na.2⟩)
theorem gb4s {S : Option (List (Int × Int))} {T : Option (List (Int × Int))} {I : Option (List Int)} {R : List Int} {L : List Int} {kk : Nat} {y : Int} {st : St} (W : Rw x n row f) (hi : i < n) (inv : Inv S T (some (R, kk)) I (some L) st) (hop : (f i).1.tmod (Int.ofNat 8) = Int.ofNat 4) (hx : R[kk]? = some y) (hkk1 : kk + 1 ≤ R.length) (hl : L.length < 16777216) :
    ∃ st', Inv S T (some (R, kk + 1)) I (some (L.drop 0 ++ [y])) st' ∧ Go.Mini.Good Try.prog [(0, row)] (CA st row) ft (TA x st.iv st.ov i) (loopAt Try.prog 4 0) .normal (TA x st'.iv st'.ov (i + 1)) (CA st' row) ft := by
  obtain ⟨mS, mT, q, mS0, q1, mT2, iv, ov, oO, oI, oQ1, oT2, oS0, oQ, oT, oS⟩ := st
  have is : MO S mS 1 oS := inv.s
  have is0 : MO S mS0 4 oS0 := inv.s0
  have it : MO T mT 2 oT := inv.t
  have it2 : MO T mT2 5 oT2 := inv.t2
  have iq : QO (some (R, kk)) q 3 oQ := inv.qq
  have iq1 : QO (some (R, kk)) q1 6 oQ1 := inv.q1
  have ii : QO (Option.map (fun L => (L, 0)) I) iv 7 oI := inv.i
  have io : QO (Option.map (fun L => (L, 0)) (some L)) ov 8 oO := inv.o
  clear inv
  have iq_ := iq
  have iq1_ := iq1
  obtain ⟨rfl, rfl, hkk⟩ := iq_
  obtain ⟨rfl, rfl, _⟩ := iq1_
  have io_ := io
  obtain ⟨rfl, rfl, _⟩ := io_
  obtain ⟨a, hidx, hld⟩ := W.at_ i hi
  have hsm := W.small
  have inv2 : Inv S T (some (R, kk + 1)) I (some (L.drop 0 ++ [y])) ⟨mS, mT, (.osl 3 (kk + 1) (R.length - kk - 1) 1), mS0, (.osl 6 (kk + 1) (R.length - kk - 1) 1), mT2, iv, (.osl 8 0 (L.length - 0 + 1) 1), (.cells false (uc (L.drop 0 ++ [y]))), oI, (.cells false (uc R)), oT2, oS0, (.cells false (uc R)), oT, oS⟩ := ⟨is, is0, it, it2, QO.mk (R := R) (by omega) hkk1, QO.mk (R := R) (by omega) hkk1, ii, QO.mk (R := L.drop 0 ++ [y]) (by simp) (Nat.zero_le _)⟩
  have run := runX_sound mixed none_sound (b4s x n a i kk (R.length - kk) (L.length - 0) (f i).1 (f i).2.1 (f i).2.2 (Int.ofNat (hv S (f i).2.1)) y oS oT (.cells false (uc R)) oS0 oT2 (.cells false (uc R)) oI (.cells false (uc L)) .dead .dead (.cells false (uc (L.drop 0 ++ [y]))) mS mT (.osl 3 kk (R.length - kk) 1) mS0 mT2 (.osl 6 kk (R.length - kk) 1) iv (.osl 8 0 (L.length - 0) 1) row) ⟨W.len _, lt_q _ _ _ (by simpa using hi), hidx, (hld _ rfl).1, op_q hop, hidx, (hld _ rfl).2.1, hasC rfl is rfl it.mp iq.ql, hidx, (hld _ rfl).2.1, hidx, (hld _ rfl).2.2, (Sound.to (D4s rfl rfl is.mp it.mp (by decide) (by omega) hx) rfl), hidx, (hld _ rfl).2.1, hidx, (hld _ rfl).2.2, (Sound.to (D4s rfl rfl (.inl rfl) (.inl rfl) (by decide) (by omega) hx) rfl), hidx, (hld _ rfl).2.1, hasC rfl is rfl it.mp (by first | exact iq.ql | exact .inr ⟨_, _, _, rfl⟩), same_q _, same_q _, app_off rfl (by omega) rfl (by omega), wrapq _ rfl (by omega), trivial⟩
  refine ⟨_, inv2, fin run (fun b => if b = 8 then 15 else b) inv2 rfl rfl rfl rfl rfl rfl (by decide) (by decide) W.nm rfl (by rw [inv2.t2.ren _ rfl]; rfl) (by rw [inv2.q1.ren _ rfl]; rfl) (by rw [inv2.s0.ren _ rfl]; rfl) (by rw [inv2.s.ren _ rfl, inv2.t.ren _ rfl, inv2.qq.ren _ rfl]; rfl) rfl rfl rfl rfl rfl rfl rfl rfl rfl ⟨.inr (.inr ⟨8, by decide, rfl⟩), .inr (.inl ⟨rfl, rfl⟩), .inr (.inr ⟨13, by decide, rfl⟩), .inr (.inr ⟨12, by decide, rfl⟩), .inr (.inr ⟨11, by decide, rfl⟩), .inr (.inr ⟨10, by decide, rfl⟩), .inr (.inr ⟨9, by decide, rfl⟩), .inl rfl, .inr (.inr ⟨7, by decide, rfl⟩), .inr (.inr ⟨6, by decide, rfl⟩), .inr (.inr ⟨5, by decide, rfl⟩), .inr (.inr ⟨4, by decide, rfl⟩), .inr (.inr ⟨3, by decide, rfl⟩), .inr (.inr ⟨2, by decide, rfl⟩), .inr (.inr ⟨1, by decide, rfl⟩), .inr (.inr ⟨0, by decide, rfl⟩), trivial⟩ rfl (Nat.le_of_ble_eq_true rfl) (fun b h1 h2 => by rw [only0 h1 h2]; rfl) (W.xr _ rfl) W.xn (inv2.i.ren _ rfl) rfl ?_⟩
  unfold TA
  repeat (first | exact rfl | refine ⟨_, _, rfl, ?_, ?_⟩ | exact .inr ⟨rfl, rfl⟩ | exact .inl ⟨rfl, rfl⟩ | exact .inl ⟨W.na.1.symm, W.na.2⟩ | exact see_same _ | exact .inl ⟨ii.na.1.symm, ii.na.2⟩ | exact .inl ⟨io.na.1.symm, io.na.2⟩)
end Go.Proofs.Ythooafgfpnedhaa.specsApart
