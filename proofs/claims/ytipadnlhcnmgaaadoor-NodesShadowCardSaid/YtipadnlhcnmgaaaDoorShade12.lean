/- A map of headers and an array of them that say the same. Conditions: those that each theorem names, and no others. -/
import Derived.Test.YtipadnlhcnmgaaaDoorShade11
namespace Go.Proofs.YtipadnlhcnmgaaaDoor.nodesShadow
open Go Go.Mini
/-! ### a map of headers, and an array of them -/
def mE (es : List (Int × Nat)) : List (AV × AV) := es.map fun x => (.int .i64 x.1, .int .u64 (Int.ofNat x.2))
def getE : List (Int × Nat) → Int → Nat
  | [], _ => 0
  | x :: t, n => if n = x.1 then x.2 else getE t n
def hasE : List (Int × Nat) → Int → Bool
  | [], _ => false
  | x :: t, n => if n = x.1 then true else hasE t n
def putE : List (Int × Nat) → Int → Nat → List (Int × Nat)
  | [], n, v => [(n, v)]
  | x :: t, n, v => if n = x.1 then (n, v) :: t else x :: putE t n v
theorem get_put (n k : Int) (v : Nat) : ∀ es, getE (putE es n v) k = if k = n then v else getE es k
  | [] => rfl
  | x :: t => by
    by_cases h : n = x.1
    · simp only [putE, if_pos h, getE]
      by_cases h2 : k = n
      · rw [if_pos h2, if_pos h2]
      · rw [if_neg h2, if_neg h2, if_neg (by rw [← h]; exact h2)]
    · simp only [putE, if_neg h, getE, get_put n k v t]
      by_cases h2 : k = n
      · have h3 : ¬ k = x.1 := by rw [h2]; exact h
        rw [if_neg h3, if_pos h2, if_pos h2]
      · by_cases h3 : k = x.1
        · rw [if_pos h3, if_neg h2, if_pos h3]
        · rw [if_neg h3, if_neg h2, if_neg h2, if_neg h3]
theorem put_lt (n : Int) (v B : Nat) (hv : v < B) : ∀ es : List (Int × Nat), (∀ x ∈ es, x.2 < B) → ∀ x ∈ putE es n v, x.2 < B
  | [], _, x, hx => by
    simp only [putE, List.mem_singleton] at hx
    subst hx
    exact hv
  | y :: t, h, x, hx => by
    simp only [putE] at hx
    split at hx
    · rcases List.mem_cons.1 hx with rfl | hx
      · exact hv
      · exact h x (List.mem_cons_of_mem _ hx)
    · rcases List.mem_cons.1 hx with rfl | hx
      · exact h _ (List.mem_cons_self ..)
      · exact put_lt n v B hv t (fun z hz => h z (List.mem_cons_of_mem _ hz)) x hx
theorem get_lt (n : Int) (B : Nat) (hB : 0 < B) : ∀ es : List (Int × Nat), (∀ x ∈ es, x.2 < B) → getE es n < B
  | [], _ => hB
  | y :: t, h => by
    simp only [getE]
    split
    · exact h y (List.mem_cons_self ..)
    · exact get_lt n B hB t (fun z hz => h z (List.mem_cons_of_mem _ hz))
theorem find_mE {s : AS} {n : Int} (hk : Tryd.prog.underlying 3 = some (.int .i64)) : ∀ (es : List (Int × Nat)) (i : Nat),
    (hasE es n = false ∧ findA Tryd.prog s 3 (.int .i64 n) (mE es) i = some none) ∨
    (hasE es n = true ∧ ∃ p, findA Tryd.prog s 3 (.int .i64 n) (mE es) i = some (some (i + p, .int .i64 n, .int .u64 (Int.ofNat (getE es n)))) ∧ ∀ v, setAt (mE es) p (.int .i64 n, .int .u64 (Int.ofNat v)) = mE (putE es n v))
  | [], _ => .inl ⟨rfl, rfl⟩
  | x :: t, i => by
    have he : eqA Tryd.prog s 8 3 (.int .i64 n) (.int .i64 x.1) = some (n == x.1) := by
      simp only [eqA, hk, eqInt, if_true]
    by_cases h : n = x.1
    · refine .inr ⟨by simp only [hasE, if_pos h], 0, ?_, fun v => ?_⟩
      · rw [show mE (x :: t) = (.int .i64 x.1, .int .u64 (Int.ofNat x.2)) :: mE t from rfl]
        have hn : (n == x.1) = true := by simpa using h
        rw [hn] at he
        simp only [findA, he, getE, if_pos h, Nat.add_zero]
        rw [h]
      · simp only [putE, if_pos h]
        rfl
    · have hn : (n == x.1) = false := by simpa using h
      have step : findA Tryd.prog s 3 (.int .i64 n) (mE (x :: t)) i = findA Tryd.prog s 3 (.int .i64 n) (mE t) (i + 1) := by
        rw [show mE (x :: t) = (.int .i64 x.1, .int .u64 (Int.ofNat x.2)) :: mE t from rfl]
        rw [hn] at he
        simp only [findA, he]
      rw [step]
      rcases find_mE hk t (i + 1) with ⟨h1, h2⟩ | ⟨h1, p, h2, h3⟩
      · exact .inl ⟨by simp only [hasE, if_neg h, h1], h2⟩
      · refine .inr ⟨by simp only [hasE, if_neg h, h1], p + 1, ?_, fun v => ?_⟩
        · rw [h2, show i + 1 + p = i + (p + 1) from by omega]
          simp only [getE, if_neg h]
        · simp only [putE, if_neg h]
          show _ :: setAt (mE t) p _ = _
          rw [h3 v]
          rfl
theorem get_none (n : Int) : ∀ es, hasE es n = false → getE es n = 0
  | [], _ => rfl
  | x :: t, h => by
    simp only [hasE] at h
    split at h
    · cases h
    · rename_i hn
      simp only [getE, if_neg hn]
      exact get_none n t h
theorem put_none (n : Int) (v : Nat) : ∀ es, hasE es n = false → mE (putE es n v) = mE es ++ [(.int .i64 n, .int .u64 (Int.ofNat v))]
  | [], _ => rfl
  | x :: t, h => by
    simp only [hasE] at h
    split at h
    · cases h
    · rename_i hn
      simp only [putE, if_neg hn]
      show _ :: mE (putE t n v) = _
      rw [put_none n v t h]
      rfl
theorem u3 : Tryd.prog.underlying 3 = some (.int .i64) := by kernel_rfl
theorem u125 : Tryd.prog.underlying 125 = some (.map 3 24) := by kernel_rfl
theorem z24 : zeroA Tryd.prog 24 = some (.int .u64 (Int.ofNat 0)) := by kernel_rfl
theorem k3 (n : Int) : keyA Tryd.prog 4 3 (.int .i64 n) = true := by
  simp only [keyA, u3]
theorem lk_mE {s : AS} {b ck : Nat} {bn : List Nat} {es : List (Int × Nat)} {n : Int} (hs : s.get b = some (.map (mE es) bn ck)) : lookupA Tryd.prog s 125 (.map b) (.int .i64 n) false = some (.int .u64 (Int.ofNat (getE es n))) := by
  simp only [lookupA, u125, k3, if_true, mapOf, hs]
  rcases find_mE (s := s) (n := n) u3 es 0 with ⟨h1, h2⟩ | ⟨h1, p, h2, _⟩
  · rw [h2, z24, get_none n es h1]
    rfl
  · rw [h2]
    rfl
def bnN (es : List (Int × Nat)) (bn : List Nat) (ck : Nat) (n : Int) : List Nat := if hasE es n = true then bn else bn ++ [ck]
def ckN (es : List (Int × Nat)) (ck : Nat) (n : Int) : Nat := if hasE es n = true then ck else ck + 1
theorem upd_mE {s : AS} {b ck : Nat} {bn : List Nat} {es : List (Int × Nat)} {n : Int} (v : Nat) (hs : s.get b = some (.map (mE es) bn ck)) :
    updateA Tryd.prog s 125 (.map b) (.int .i64 n) (.int .u64 (Int.ofNat v)) = some (s.set b (.map (mE (putE es n v)) (bnN es bn ck n) (ckN es ck n))) := by
  have hb : bitEq (.int .i64 n) (.int .i64 n) = true := by simp [bitEq, bitEq1]
  simp only [updateA, u125, k3, if_true, mapAt, hs]
  rcases find_mE (s := s) (n := n) u3 es 0 with ⟨h1, h2⟩ | ⟨h1, p, h2, h3⟩
  · rw [h2, put_none n v es h1]
    simp only [AV.young, noteEsc, Bool.false_eq_true, if_false, bnN, ckN, h1]
  · rw [h2]
    simp only [hb, Bool.not_true, Bool.false_eq_true, if_false, AV.young, noteEsc, bnN, ckN, h1, if_true, Nat.zero_add, h3]
def wC (W : List Nat) : List AV := W.map fun w => .int .u64 (Int.ofNat w)
theorem splice_wC (v : Nat) : ∀ (W : List Nat) (k : Nat), k < W.length → Mini.splice k [.int .u64 (Int.ofNat v)] (wC W) = some (wC (W.set k v))
  | [], k, h => by simp at h
  | x :: W, 0, _ => by
    show (match Mini.splice 0 [] (wC W) with | some l => some (_ :: l) | none => none) = _
    cases W <;> rfl
  | x :: W, k + 1, h => by
    show (match Mini.splice k _ (wC W) with | some l => some (_ :: l) | none => none) = _
    rw [splice_wC v W k (by simpa using h)]
    rfl
theorem s24 : sizeA Tryd.prog 24 = some 1 := by kernel_rfl
theorem g24 : isAggA Tryd.prog 24 = some false := by kernel_rfl
theorem u88 : Tryd.prog.underlying 88 = some (.array 256 24) := by kernel_rfl
theorem sto_wC {s : AS} {b k : Nat} {x : AV} {W : List Nat} (v : Nat) (hs : s.get b = some (.cells false (x :: wC W))) (hk : k < W.length) :
    storeA Tryd.prog s 24 (.ptr b (1 + k)) (.int .u64 (Int.ofNat v)) = some (s.set b (.cells false (x :: wC (W.set k v)))) := by
  have hsp : Mini.splice (1 + k) [.int .u64 (Int.ofNat v)] (x :: wC W) = some (x :: wC (W.set k v)) := by
    rw [Nat.add_comm]
    show (match Mini.splice k _ (wC W) with | some l => some (_ :: l) | none => none) = _
    rw [splice_wC v W k hk]
  have h1 : Nat.beq (AV.int .u64 (Int.ofNat v)).cells.length 1 = true := rfl
  simp only [storeA, s24, h1, if_true, writeA, hs]
  show (match Mini.splice (1 + k) [.int .u64 (Int.ofNat v)] (x :: wC W) with | some cs' => _ | none => none) = _
  rw [hsp]
  rfl
theorem ld_wC {s : AS} {b k : Nat} {x : AV} {W : List Nat} (hs : s.get b = some (.cells false (x :: wC W))) (hk : k < W.length) : loadA Tryd.prog s 24 (.ptr b (1 + k)) = some (.int .u64 (Int.ofNat (W.getD k 0))) := by
  refine ld_cell g24 hs ?_
  rw [Nat.add_comm]
  show (wC W)[k]? = _
  simp [wC, hk]
theorem ix_wC {b k : Nat} (hk : k < 256) : indexAddrA Tryd.prog 88 (.ptr b 1) (.int .i64 (Int.ofNat k)) = some (.ptr b (1 + k)) := by
  simp only [indexAddrA, u88, s24]
  rw [if_pos ⟨by simp, by simp; omega⟩]
  simp
/-- The map and the array say the same. -/
structure Ag (es : List (Int × Nat)) (W : List Nat) : Prop where
  len : W.length = 256
  eq : ∀ n : Int, getE es n = if 0 ≤ n ∧ n < 256 then W.getD n.toNat 0 else 0
  lt : ∀ x ∈ es, x.2 < 18446744073709551616
def upd (a : Ac) : Prop := a.ak = 9 ∧ (0 ≤ a.pl ∧ a.pl < 256) ∧ a.fd = 0
instance (a : Ac) : Decidable (upd a) := by unfold upd; exact inferInstance
def esN (a : Ac) (es : List (Int × Nat)) : List (Int × Nat) := if upd a then putE es a.pl a.nw else es
def WN (a : Ac) (W : List Nat) : List Nat := if upd a then W.set a.pl.toNat a.nw else W
theorem Ag.next {es : List (Int × Nat)} {W : List Nat} (h : Ag es W) (a : Ac) (hv : a.nw < 18446744073709551616) : Ag (esN a es) (WN a W) := by
  unfold esN WN
  by_cases hu : upd a
  · rw [if_pos hu, if_pos hu]
    obtain ⟨_, ⟨p0, p1⟩, _⟩ := hu
    refine ⟨by rw [List.length_set, h.len], fun n => ?_, put_lt _ _ _ hv _ h.lt⟩
    rw [get_put, h.eq n]
    by_cases hn : n = a.pl
    · subst hn
      rw [if_pos rfl, if_pos ⟨p0, p1⟩]
      have : a.pl.toNat < W.length := by rw [h.len]; omega
      simp [List.getD, this]
    · rw [if_neg hn]
      by_cases hr : 0 ≤ n ∧ n < 256
      · rw [if_pos hr, if_pos hr]
        have : a.pl.toNat ≠ n.toNat := by omega
        simp [List.getD, this]
      · rw [if_neg hr, if_neg hr]
  · rw [if_neg hu, if_neg hu]
    exact h
theorem Ag.at_ {es : List (Int × Nat)} {W : List Nat} (h : Ag es W) (k : Nat) (hk : k < 256) : W.getD k 0 = getE es (Int.ofNat k) := by
  rw [h.eq, if_pos ⟨by simp, by simp only [Int.ofNat_eq_natCast]; omega⟩]
  rfl
theorem Ag.w_lt {es : List (Int × Nat)} {W : List Nat} (h : Ag es W) (n : Int) : getE es n < 18446744073709551616 := get_lt n _ (by decide) es h.lt
/-! ### what is laid -/
theorem hasG_of {s : AS} {r0 r1 : Bool} (h0 : s.get 0 = some (.cells r0 wf)) (h1 : s.get 1 = some (.cells r1 lf)) : hasG s G2 = true ∧ hasG s G = true := by
  have b0 : AV.beqs wf wf = true := by kernel_rfl
  have b1 : AV.beqs lf lf = true := by kernel_rfl
  constructor
  · simp only [hasG, G2, List.all_cons, List.all_nil, h0, h1, b0, b1, Bool.and_self]
  · simp only [hasG, G, List.all_cons, List.all_nil, h0, b0, Bool.and_self]
structure Env (rest : List (Nat × AObj)) : Prop where
  olds : Olds 4 rest
  g0 : ∃ r, getB rest 0 = some (.cells r wf)
  g1 : ∃ r, getB rest 1 = some (.cells r lf)
theorem mE_names {p : Nat → Bool} : ∀ es : List (Int × Nat), namesE p (mE es) = true
  | [] => rfl
  | x :: t => by
    show (AV.names p (.int .i64 x.1) && AV.names p (.int .u64 (Int.ofNat x.2)) && namesE p (mE t)) = true
    rw [mE_names t]
    rfl
theorem wC_names {p : Nat → Bool} : ∀ W : List Nat, namess p (wC W) = true
  | [] => rfl
  | x :: t => by
    show (AV.names p (.int .u64 (Int.ofNat x)) && namess p (wC t)) = true
    rw [wC_names t]
    rfl
/-- The law's blocks: the array with the last generation, the shadow, its map. -/
def Fs (m : Nat) (es : List (Int × Nat)) (bn : List Nat) (ck : Nat) (W : List Nat) (rest : List (Nat × AObj)) : List (Nat × AObj) := Fb m (mE es) bn ck (wC W) rest
theorem sameBut_any (l : List Nat) : ∀ bs : List (Nat × AObj), sameBut l bs bs
  | [] => rfl
  | x :: t => ⟨x, t, rfl, rfl, .inr rfl, sameBut_any l t⟩
theorem keep7 {f : FuncId} {args : List AV} {v : AV} {e : AExit} {m : Nat} {es es1 : List (Int × Nat)} {bn bn1 l L0 : List Nat} {ck ck1 n1 : Nat} {W W1 : List Nat} {rest : List (Nat × AObj)}
    (h : Sound Tryd.prog (.call f args ⟨⟨Fs m es bn ck W rest, 7, none, []⟩, 7⟩) ⟨e, [v], ⟨⟨Fs m es1 bn1 ck1 W1 rest, 7, none, l⟩, n1⟩⟩) (hv : v.names (fun _ => false) = true) (hr : Olds 4 rest)
    (h6 : L0.contains 6 = true ∨ W = W1) (h4 : L0.contains 4 = true ∨ AObj.map (mE es) bn ck = AObj.map (mE es1) bn1 ck1) (esc esc' : Option Nat) (Wl : List Nat) :
    Sound Tryd.prog (.call f args ⟨⟨Fs m es bn ck W rest, 7, esc, Wl⟩, 7⟩) ⟨.ret, [v], ⟨⟨Fs m es1 bn1 ck1 W1 rest, 7, esc', L0 ++ Wl⟩, 7⟩⟩ := by
  refine Sound.keepW (bs2 := Fs m es1 bn1 ck1 W1 rest) L0 h (names_sub (fun _ h => by cases h) hv) ⟨_, _, rfl, rfl, ?_, ⟨_, _, rfl, rfl, .inr rfl, ⟨_, _, rfl, rfl, ?_, sameBut_any _ _⟩⟩⟩ ⟨⟨?_, rfl⟩, ⟨rfl, rfl⟩, ⟨mE_names _, rfl⟩, Olds.each hr (by decide) fun b hb => ?_⟩ esc esc' Wl
  · rcases h6 with h6 | h6
    · exact .inl h6
    · exact .inr (by rw [h6])
  · rcases h4 with h4 | h4
    · exact .inl h4
    · exact .inr h4
  · exact wC_names _
  · show getB ((6, _) :: (5, _) :: (4, _) :: rest) b = _
    rw [getB_cons, if_neg (by omega), getB_cons, if_neg (by omega), getB_cons, if_neg (by omega)]
theorem slot_call (n : Int) (s : AS) : Sound Tryd.prog (.call 63 [.int .i64 n] s) ⟨.ret, [.bool (decide (0 ≤ n ∧ n < 256))], s⟩ := by
  by_cases h0 : 0 ≤ n
  · by_cases h1 : n < 256
    · rw [show decide (0 ≤ n ∧ n < 256) = true from by simp; omega]
      exact Sound.pure (G := []) (runX_sound mixed none_sound (sl_3 n) ⟨by simp [Qst.ok]; omega, by simp [Qst.ok]; omega, trivial⟩) rfl rfl rfl rfl
    · rw [show decide (0 ≤ n ∧ n < 256) = false from by simp; omega]
      exact Sound.pure (G := []) (runX_sound mixed none_sound (sl_2 n) ⟨by simp [Qst.ok]; omega, by simp [Qst.ok]; omega, trivial⟩) rfl rfl rfl rfl
  · rw [show decide (0 ≤ n ∧ n < 256) = false from by simp; omega]
    exact Sound.pure (G := []) (runX_sound mixed none_sound (sl_1 n) ⟨by simp [Qst.ok]; omega, trivial⟩) rfl rfl rfl rfl
end Go.Proofs.YtipadnlhcnmgaaaDoor.nodesShadow
