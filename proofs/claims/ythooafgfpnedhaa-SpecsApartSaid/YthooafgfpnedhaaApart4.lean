/- The canonical states of the loop of SpecsApart. Conditions: those that each theorem names, and no others. -/
import Derived.Test.YthooafgfpnedhaaApart3
import Derived.Test.YthooafgfpnedhaaMini3
namespace Go.Proofs.Ythooafgfpnedhaa.specsApart
open Go Go.Mini
abbrev uu : AV := .tuple [.nilMap]
def TA (x iv ov : AV) (i : Nat) : List AV := x :: uu :: .bool false :: .ptr 9 0 :: .slice 13 0 3 3 :: iv :: ov :: .int .i64 (Int.ofNat i) :: List.replicate 157 uu
def BA (mS mT q mS0 q1 mT2 : AV) (oO oI oQ1 oT2 oS0 oQ oT oS : AObj) (row : List AV) : List (Nat × AObj) := [(13, .cells false [.ptr 10 0, .ptr 11 0, .ptr 12 0]), (12, .cells false [.nilMap, mT2, .nilSlice]), (11, .cells false [.nilMap, .nilMap, q1]), (10, .cells false [mS0, .nilMap, .nilSlice]), (9, .cells false [mS, mT, q]), (8, oO), (7, oI), (6, oQ1), (5, oT2), (4, oS0), (3, oQ), (2, oT), (1, oS), (0, .cells true row)]
structure St where
  mS : AV
  mT : AV
  q : AV
  mS0 : AV
  q1 : AV
  mT2 : AV
  iv : AV
  ov : AV
  oO : AObj
  oI : AObj
  oQ1 : AObj
  oT2 : AObj
  oS0 : AObj
  oQ : AObj
  oT : AObj
  oS : AObj
def CA (st : St) (row : List AV) : AS := ⟨⟨BA st.mS st.mT st.q st.mS0 st.q1 st.mT2 st.oO st.oI st.oQ1 st.oT2 st.oS0 st.oQ st.oT st.oS row, 14, none, []⟩, 14⟩
def ft : List Nat := [13, 12, 11, 10, 9, 8, 7, 6, 5, 4, 3, 2, 1]
def Cl (o : AObj) : Prop := o.rw = true ∧ o.names (fun _ => false) = true
theorem Cl.ren {o : AObj} (h : Cl o) (π : Nat → Nat) : o.ren π = o := by rw [oren_congr (p := fun _ => false) (π' := fun b => b) (fun _ h => by cases h) h.2, oren_id]
theorem Cl.map (es : List (Int × Int)) (bn : List Nat) (ck : Nat) : Cl (.map (mapE .u64 .u64 es) bn ck) := ⟨rfl, names_mapE _ _⟩
theorem Cl.row (Q : List Int) : Cl (.cells false (uc Q)) := ⟨rfl, names_uc _ _⟩
def MO (S : Option (List (Int × Int))) (m : AV) (b : Nat) (o : AObj) : Prop := match S with
  | none => m = .nilMap ∧ Cl o
  | some es => m = .map b ∧ ∃ bn ck, o = .map (mapE .u64 .u64 es) bn ck
def QO (Q : Option (List Int × Nat)) (q : AV) (b : Nat) (o : AObj) : Prop := match Q with
  | none => q = .nilSlice ∧ Cl o
  | some (R, k) => q = .osl b k (R.length - k) 1 ∧ o = .cells false (uc R) ∧ k ≤ R.length
section
variable {S : Option (List (Int × Int))} {Q : Option (List Int × Nat)} {m : AV} {b : Nat} {o : AObj}
theorem MO.cl (h : MO S m b o) : Cl o := by
  cases S with
  | none => exact h.2
  | some es => obtain ⟨_, bn, ck, rfl⟩ := h; exact .map es bn ck
theorem MO.mp (h : MO S m b o) : Mp m := by
  cases S with
  | none => exact .inl h.1
  | some es => exact .inr ⟨b, h.1⟩
theorem MO.ren (h : MO S m b o) (π : Nat → Nat) (hp : π b = b) : m.ren π = m := by
  cases S with
  | none => rw [h.1]; rfl
  | some es => rw [h.1]; simp [AV.ren, hp]
theorem MO.nm (h : MO S m b o) {n : Nat} (hb : b < n) : m.names (fun c => Nat.blt c n) = true := by
  cases S with
  | none => rw [h.1]; rfl
  | some es => rw [h.1]; simpa [AV.names] using hb
theorem QO.cl (h : QO Q m b o) : Cl o := by
  cases Q with
  | none => exact h.2
  | some R => obtain ⟨_, rfl, _⟩ := h; exact .row R.1
theorem QO.ql (h : QO Q m b o) : Ql m := by
  cases Q with
  | none => exact .inl h.1
  | some R => exact .inr ⟨b, _, _, h.1⟩
theorem QO.ren (h : QO Q m b o) (π : Nat → Nat) (hp : π b = b) : m.ren π = m := by
  cases Q with
  | none => rw [h.1]; rfl
  | some R => rw [h.1]; simp [AV.ren, hp]
theorem QO.nm (h : QO Q m b o) {n : Nat} (hb : b < n) : m.names (fun c => Nat.blt c n) = true := by
  cases Q with
  | none => rw [h.1]; rfl
  | some R => rw [h.1]; simpa [AV.names] using hb
end
structure Inv (S T : Option (List (Int × Int))) (Q : Option (List Int × Nat)) (I O : Option (List Int)) (st : St) : Prop where
  s : MO S st.mS 1 st.oS
  s0 : MO S st.mS0 4 st.oS0
  t : MO T st.mT 2 st.oT
  t2 : MO T st.mT2 5 st.oT2
  qq : QO Q st.q 3 st.oQ
  q1 : QO Q st.q1 6 st.oQ1
  i : QO (I.map fun L => (L, 0)) st.iv 7 st.oI
  o : QO (O.map fun L => (L, 0)) st.ov 8 st.oO

theorem Sound.sees {P : Program} {c : Code} {T : List AV} {C s1 : AS} {e : AExit} {ts1 ts2 : List AV} (h : Sound P (.code c T C) ⟨e, ts1, s1⟩) (hts : seesT (fun b => b) (fun _ => true) ts2 ts1) : Sound P (.code c T C) ⟨e, ts2, s1⟩ := by
  refine ⟨h.1, fun B ρ a w R ht => wp_mono (h.2 B ρ a w R ht) ?_⟩
  rintro e' a1 w1 ⟨rfl, ρ1, ht1, hp1⟩
  exact ⟨rfl, ρ1, ⟨seesT_rel (ρ := ρ1) (ρ' := ρ1) (fun _ _ _ h => h) hts ht1.rel, ht1.df⟩, hp1⟩

theorem mem_ft {b : Nat} : b ∈ ft ↔ 1 ≤ b ∧ b < 14 := by
  unfold ft
  simp only [List.mem_cons, List.not_mem_nil, or_false]
  omega
theorem rens_rep (π : Nat → Nat) : ∀ n, rens π (List.replicate n uu) = List.replicate n uu
  | 0 => rfl
  | n + 1 => by
    show uu.ren π :: rens π (List.replicate n uu) = uu :: List.replicate n uu
    rw [rens_rep π n]
    rfl
theorem names_rep (p : Nat → Bool) : ∀ n, namess p (List.replicate n uu) = true
  | 0 => rfl
  | n + 1 => by
    show (true && namess p (List.replicate n uu)) = true
    rw [names_rep p n]
    rfl
theorem keysCA (st : St) (row : List AV) : (CA st row).h.bs.map (·.1) = [13, 12, 11, 10, 9, 8, 7, 6, 5, 4, 3, 2, 1, 0] := rfl
theorem getCA {st : St} {row : List AV} {b : Nat} {o : AObj} (h : (CA st row).get b = some o) : b < 14 := by
  have := getB_mem h
  rw [keysCA] at this
  simp only [List.mem_cons, List.not_mem_nil, or_false] at this
  omega
theorem getB_in {b : Nat} {o : AObj} : ∀ {l : List (Nat × AObj)}, getB l b = some o → ∃ y ∈ l, y.1 = b ∧ y.2 = o
  | [], h => by cases h
  | y :: t, h => by
    simp only [getB] at h
    split at h
    · rename_i hb
      exact ⟨y, by simp, Nat.eq_of_beq_eq_true hb, by simpa using h⟩
    · obtain ⟨z, h1, h2⟩ := getB_in h
      exact ⟨z, by simp [h1], h2⟩
/-- Behind a piece of code the state stands as the canonical one does. -/
theorem fin {st0 : AS} {st' : St} {row : List AV} {c : Code} {T ts1 : List AV} {x iv1 ov1 : AV} {i' : Nat} {e : AExit} {bs1 : List (Nat × AObj)} {len1 nx1 : Nat} {esc1 : Option Nat} {wr1 : List Nat} {foot0 : List Nat}
    (hs : Sound Try.prog (.code c T st0) ⟨e, ts1, ⟨⟨bs1, len1, esc1, wr1⟩, nx1⟩⟩) (π : Nat → Nat) {S' T' : Option (List (Int × Int))} {Q' : Option (List Int × Nat)} {I' O' : Option (List Int)} (inv : Inv S' T' Q' I' O' st') (h0 : π 0 = 0) (h9 : π 9 = 9) (h10 : π 10 = 10) (h11 : π 11 = 11) (h12 : π 12 = 12) (h13 : π 13 = 13)
    (hinj : ∀ b ∈ ft, ∀ c ∈ ft, π b = π c → b = c) (hne : ∀ c ∈ ft, π c ≠ 0) (hnm : namess (fun _ => false) row = true)
    (g13 : getB bs1 13 = some (.cells false [.ptr 10 0, .ptr 11 0, .ptr 12 0])) (g12 : getB bs1 12 = some (.cells false [.nilMap, st'.mT2.ren π, .nilSlice])) (g11 : getB bs1 11 = some (.cells false [.nilMap, .nilMap, st'.q1.ren π])) (g10 : getB bs1 10 = some (.cells false [st'.mS0.ren π, .nilMap, .nilSlice])) (g9 : getB bs1 9 = some (.cells false [st'.mS.ren π, st'.mT.ren π, st'.q.ren π]))
    (g8 : getB bs1 (π 8) = some st'.oO) (g7 : getB bs1 (π 7) = some st'.oI) (g6 : getB bs1 (π 6) = some st'.oQ1) (g5 : getB bs1 (π 5) = some st'.oT2) (g4 : getB bs1 (π 4) = some st'.oS0) (g3 : getB bs1 (π 3) = some st'.oQ) (g2 : getB bs1 (π 2) = some st'.oT) (g1 : getB bs1 (π 1) = some st'.oS) (g0 : getB bs1 0 = some (.cells true row))
    (hcov : eachX (fun b o => o = .dead ∨ Cl o ∨ ∃ c, c < 14 ∧ π c = b) bs1) (hkeys : (bs1.all fun y => Nat.blt y.1 nx1) = true) (hnx : st0.nx ≤ nx1) (hst : ∀ b, b < st0.nx → b ∉ foot0 → getB bs1 b = st0.get b)
    (hx : x.ren π = x) (hxn : x.names (fun b => Nat.blt b 14) = true) (hiv : st'.iv.ren π = iv1) (hov : st'.ov.ren π = ov1) (hts : seesT (fun b => b) (fun _ => true) (TA x iv1 ov1 i') ts1) :
    Go.Mini.Good Try.prog [(0, row)] st0 foot0 T c e (TA x st'.iv st'.ov i') (CA st' row) ft := by
  have hT : rens π (TA x st'.iv st'.ov i') = TA x iv1 ov1 i' := by
    show x.ren π :: uu.ren π :: AV.bool false :: AV.ptr (π 9) 0 :: AV.slice (π 13) 0 3 3 :: st'.iv.ren π :: st'.ov.ren π :: AV.int .i64 (Int.ofNat i') :: rens π (List.replicate 157 uu) = _
    rw [hx, h9, h13, hiv, hov, rens_rep]
    rfl
  have lt14 : ∀ c ∈ ft, c < 14 := fun c hc => (mem_ft.1 hc).2
  refine ⟨_, π, by rw [hT]; exact Sound.sees hs hts, ⟨⟨fun g hg => absurd hg (by rw [noG]; omega), h0, ?_, hinj, by decide, ?_, ?_, ?_⟩, hnx, ?_, ?_, ?_, ?_⟩, ?_⟩
  · intro k hk
    rw [keysCA] at hk
    simp only [List.mem_cons, List.not_mem_nil, or_false] at hk
    show k < 14
    omega
  · intro b o hb hf
    have hlt := getCA hb
    have hb0 : b = 0 := by
      have : ¬ (1 ≤ b ∧ b < 14) := fun h => hf (mem_ft.2 h)
      omega
    subst hb0
    have : (CA st' row).get 0 = some (.cells true row) := rfl
    rw [this] at hb
    exact ⟨row, (Option.some.inj hb).symm, by simp⟩
  · intro y hy
    simp only [List.mem_singleton] at hy
    subst hy
    exact ⟨h0, show 0 < 14 by decide, show ¬ 0 ∈ ft by decide, hnm, rfl, g0, hne⟩
  · have cl : ∀ {o : AObj} {b : Nat}, Cl o → (CA st' row).get b = some o → getB bs1 (π b) = some o → ∃ o, (CA st' row).get b = some o ∧ o.rw = true ∧ o.names (fun c => Nat.blt c (CA st' row).nx) = true ∧ getB bs1 (π b) = some (o.ren π) := fun hc h1 h2 => ⟨_, h1, hc.1, onames_sub (fun _ h => by cases h) hc.2, by rw [hc.ren]; exact h2⟩
    intro b hb
    simp only [ft, List.mem_cons, List.not_mem_nil, or_false] at hb
    rcases hb with rfl | rfl | rfl | rfl | rfl | rfl | rfl | rfl | rfl | rfl | rfl | rfl | rfl
    · exact ⟨_, rfl, rfl, rfl, by rw [h13]; show getB bs1 13 = some (.cells false [.ptr (π 10) 0, .ptr (π 11) 0, .ptr (π 12) 0]); rw [h10, h11, h12]; exact g13⟩
    · exact ⟨_, rfl, rfl, (show (true && (st'.mT2.names (fun c => Nat.blt c 14) && (true && true))) = true by rw [inv.t2.nm (show 5 < 14 by decide)]; rfl), by rw [h12]; exact g12⟩
    · exact ⟨_, rfl, rfl, (show (true && (true && (st'.q1.names (fun c => Nat.blt c 14) && true))) = true by rw [inv.q1.nm (show 6 < 14 by decide)]; rfl), by rw [h11]; exact g11⟩
    · exact ⟨_, rfl, rfl, and2 (inv.s0.nm (show 4 < 14 by decide)) rfl, by rw [h10]; exact g10⟩
    · exact ⟨_, rfl, rfl, and2 (inv.s.nm (show 1 < 14 by decide)) (and2 (inv.t.nm (show 2 < 14 by decide)) (and2 (inv.qq.nm (show 3 < 14 by decide)) rfl)), by rw [h9]; exact g9⟩
    · exact cl inv.o.cl rfl g8
    · exact cl inv.i.cl rfl g7
    · exact cl inv.q1.cl rfl g6
    · exact cl inv.t2.cl rfl g5
    · exact cl inv.s0.cl rfl g4
    · exact cl inv.qq.cl rfl g3
    · exact cl inv.t.cl rfl g2
    · exact cl inv.s.cl rfl g1
  · intro k hk
    obtain ⟨y, hy, rfl⟩ := List.mem_map.1 hk
    have := List.all_eq_true.1 hkeys y hy
    simpa using this
  · intro b o hb
    have hb : getB bs1 b = some o := hb
    have : ∃ y ∈ bs1, y.1 = b ∧ y.2 = o := getB_in hb
    obtain ⟨y, hy, rfl, rfl⟩ := this
    rcases eachX_mem hcov y hy with h | h | ⟨c, h1, h2⟩
    · exact .inl h
    · exact .inr (.inl h)
    · obtain ⟨o', ho'⟩ : ∃ o', (CA st' row).get c = some o' := by
        refine getB_some ?_
        rw [keysCA]
        simp only [List.mem_cons, List.not_mem_nil, or_false]
        omega
      exact .inr (.inr ⟨c, o', ho', h2⟩)
  · intro c hc
    have hc : c < 14 := hc
    by_cases h : c = 0
    · exact .inr (.inr ⟨row, by simp [h]⟩)
    · exact .inl (mem_ft.2 (by omega))
  · exact hst
  · show (x.names _ && (true && (true && (true && (true && (st'.iv.names _ && (st'.ov.names _ && (true && namess _ (List.replicate 157 uu))))))))) = true
    rw [show x.names (fun b => Nat.blt b (CA st' row).nx) = true from hxn, show st'.iv.names (fun b => Nat.blt b (CA st' row).nx) = true from inv.i.nm (show 7 < 14 by decide), show st'.ov.names (fun b => Nat.blt b (CA st' row).nx) = true from inv.o.nm (show 8 < 14 by decide), names_rep]
    rfl
theorem only0 {b : Nat} (h1 : b < 14) (h2 : b ∉ ft) : b = 0 := by
  have : ¬ (1 ≤ b ∧ b < 14) := fun h => h2 (mem_ft.2 h)
  omega
theorem QO.na {Q : Option (List Int × Nat)} {m : AV} {b : Nat} {o : AObj} (h : QO Q m b o) : junkOf m = uu ∧ junkable m = true := by
  cases Q with
  | none => rw [h.1]; exact ⟨rfl, rfl⟩
  | some R => rw [h.1]; exact ⟨rfl, rfl⟩
/-- The rows that came in. -/
structure Rw (x : AV) (n : Nat) (row : List AV) (f : Nat → Int × Int × Int) : Prop where
  len : ∀ s, lenA Try.prog s 47 x = some (.int .i64 (Int.ofNat n))
  at_ : ∀ i, i < n → ∃ a, indexAddrA Try.prog 47 x (.int .i64 (Int.ofNat i)) = some (.ptr 0 a) ∧ ∀ s : AS, s.get 0 = some (.cells true row) → loadA Try.prog s 5 (.ptr 0 (a + 0)) = some (.int .u8 (f i).1) ∧ loadA Try.prog s 22 (.ptr 0 (a + 1)) = some (.int .u64 (f i).2.1) ∧ loadA Try.prog s 22 (.ptr 0 (a + 2)) = some (.int .u64 (f i).2.2)
  small : n ≤ 100
  op : ∀ i, i < n → 0 ≤ (f i).1
  nm : namess (fun _ => false) row = true
  xr : ∀ π : Nat → Nat, π 0 = 0 → x.ren π = x
  xn : x.names (fun b => Nat.blt b 14) = true
  na : junkOf x = uu ∧ junkable x = true
def hv (S : Option (List (Int × Int))) (k : Int) : Nat := if (getM (S.getD []) k).isSome then 1 else 2
theorem hasC {s : AS} {b bm : Nat} {m t q : AV} {S : Option (List (Int × Int))} {o : AObj} {k v : Int} (hb : s.get b = some (.cells false [m, t, q])) (hS : MO S m bm o) (hm : s.get bm = some o) (ht : Mp t) (hq : Ql q) :
    Sound Try.prog (.call 9 [.ptr b 0, .int .u8 (Int.ofNat 2), .int .u64 k, .int .u64 v] s) ⟨.ret, [.tuple [.int .u8 (Int.ofNat (hv S k)), .int .u64 (Int.ofNat 0)]], s⟩ := by
  cases S with
  | none =>
    obtain ⟨rfl, _⟩ := hS
    exact D2n hb ht hq
  | some es =>
    obtain ⟨rfl, bn, ck, rfl⟩ := hS
    cases hx : getM es k with
    | none =>
      have e : hv (some es) k = 2 := by simp [hv, hx]
      rw [e]
      exact D2a hb hm ht hq hx
    | some y =>
      have e : hv (some es) k = 1 := by simp [hv, hx]
      rw [e]
      exact D2y hb hm ht hq hx
theorem i64_wrap {x : Int} (h0 : -9223372036854775808 ≤ x) (h1 : x < 9223372036854775808) : IntKind.i64.wrap x = x := by
  simp [IntKind.wrap, IntKind.bits, IntKind.signed]; omega

/-! ### ref01.bit -/
def Tb (w : Int) (k i : Nat) (a8 : AV) : List AV := [.int .u64 w, .int .i64 (Int.ofNat i), undefA, undefA, .int .u64 0, .int .i64 (Int.ofNat k), junkA, junkA, a8, junkA, junkA, junkA, junkA, undefA, undefA]
theorem wrapq {n : Nat} (x : Int) (hx : x = Int.ofNat n) (h : n < 9223372036854775808) : (Qst.val (some (AV.int .i64 (IntKind.i64.wrap x))) (AV.int .i64 (Int.ofNat n))).ok Try.prog := by
  simp only [Qst.ok]
  rw [hx, i64_wrap (by simp only [Int.ofNat_eq_natCast]; omega) (by simp only [Int.ofNat_eq_natCast]; omega)]
theorem lt_q (a b : Nat) (r : Bool) (h : decide (a < b) = r) : (Qst.val (some (AV.bool (decide (Int.ofNat a < Int.ofNat b)))) (AV.bool r)).ok Try.prog := by
  simp only [Qst.ok]
  rw [← h]
  simp
theorem same_q (x : Int) : (Qst.val (some (AV.bool (x != x))) (AV.bool false)).ok Try.prog := by simp [Qst.ok]
theorem op_q {a : Int} {n : Nat} (h : a.tmod (Int.ofNat 8) = Int.ofNat n) : (Qst.val (some (AV.int .u8 (a.tmod (Int.ofNat 8)))) (AV.int .u8 (Int.ofNat n))).ok Try.prog := by
  simp only [Qst.ok]
  rw [h]
end Go.Proofs.Ythooafgfpnedhaa.specsApart
