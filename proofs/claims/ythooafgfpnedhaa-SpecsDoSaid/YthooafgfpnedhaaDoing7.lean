/- slices.Sort of numbers gives them in order; slices.Sorted of the keys of a map; The example of the chapter; Set, Map and Queue of a State. Conditions: those that each theorem names, and no others. -/
import Derived.Test.YthooafgfpnedhaaDoing6
import Derived.Sort.LotD7
import Derived.Sort.LotD5
import Derived.Sort.Walk13a
import Derived.Sort.AssemblyPlain
import Derived.Test.YthooafgfpnedhaaDoing2
import Derived.Test.YthooafgfpnedhaaDoing1
import Derived.Test.YthooafgfpnedhaaMini3
namespace Go.Proofs.Ythooafgfpnedhaa.specsDo.pq
open Go Go.Mini Go.Sort
/-! ### order2, median, medianAdjacent, choosePivot -/
def bsB (v : AV) (D : List AV) : List (Nat × AObj) := [(1, .cells false [v]), (0, .cells false D)]
def CallB (f : FuncId) (args : List AV) (d : Array Int) (w w' : AV) (v : AV) : Prop := ∀ (esc esc' : Option Nat) (W : List Nat), Sound Try.prog (.call f args ⟨⟨bsB w (ur d), 2, esc, W⟩, 2⟩) ⟨.ret, [v], ⟨⟨bsB w' (ur d), 2, esc', [1] ++ W⟩, 2⟩⟩
theorem CSB {f : FuncId} {args : List AV} {d : Array Int} {v w w' : AV} {e : AExit} {esc1 : Option Nat} {wr1 : List Nat} (h : Sound Try.prog (.call f args ⟨⟨bsB w (ur d), 2, none, []⟩, 2⟩) ⟨e, [v], ⟨⟨bsB w' (ur d), 2, esc1, wr1⟩, 2⟩⟩) (hv : v.names (fun c => Nat.blt c 2) = true) (hw : w'.names (fun c => Nat.blt c 2) = true) : CallB f args d w w' v :=
  fun esc esc' W => Sound.keepW [1] h hv (show sameBut [1] (bsB w (ur d)) (bsB w' (ur d)) from ⟨_, _, rfl, rfl, .inl (by simp), _, _, rfl, rfl, .inr rfl, rfl⟩) ⟨⟨by show (w'.names (fun c => Nat.blt c 2) && true) = true; rw [hw]; rfl, rfl⟩, ⟨ur_nm _ _, rfl⟩, trivial⟩ esc esc' W
theorem CSA2 {f : FuncId} {args : List AV} {v : AV} {D D2 : List AV} {e : AExit} {s1 : AS} (h : Sound Try.prog (.call f args ⟨⟨bsA D, 1, none, []⟩, 1⟩) ⟨e, [v], s1⟩) (hg : s1.get 0 = some (.cells false D2)) (hv : v.names (fun c => Nat.blt c 1) = true) (hD : namess (fun c => Nat.blt c 1) D2 = true) (esc esc' : Option Nat) (W : List Nat) :
    Sound Try.prog (.call f args ⟨⟨bsA D, 1, esc, W⟩, 1⟩) ⟨.ret, [v], ⟨⟨bsA D2, 1, esc', [0] ++ W⟩, 1⟩⟩ :=
  Sound.keepW [0] h hv sameA ⟨⟨hD, hg⟩, trivial⟩ esc esc' W
def nA (k : Nat) : AV := .int .i64 (Int.ofNat k)
theorem o2_lt {d : Array Int} {a b w n : Nat} (ha : a < n) (hb : b < n) : (order2 ltInt d a b w).1 < n ∧ (order2 ltInt d a b w).2.1 < n ∧ (order2 ltInt d a b w).2.2 ≤ w + 1 := by
  unfold order2
  split
  · exact ⟨hb, ha, Nat.le_refl _⟩
  · exact ⟨ha, hb, Nat.le_succ _⟩
theorem md_lt {d : Array Int} {a b c w n : Nat} (ha : a < n) (hb : b < n) (hc : c < n) : (median ltInt d a b c w).1 < n ∧ (median ltInt d a b c w).2 ≤ w + 3 := by
  have h1 := o2_lt (d := d) (w := w) ha hb
  have h2 := o2_lt (d := d) (w := (order2 ltInt d a b w).2.2) h1.2.1 hc
  have h3 := o2_lt (d := d) (w := (order2 ltInt d (order2 ltInt d a b w).2.1 c (order2 ltInt d a b w).2.2).2.2) h1.1 h2.1
  exact ⟨h3.2.1, by show (order2 ltInt d _ _ _).2.2 ≤ _; omega⟩
def hN : Hint → Nat
  | .unknown => 0
  | .increasing => 1
  | .decreasing => 2
theorem eqB {a b : Nat} {r : Bool} (h : (a = b) ↔ r = true) : (Qst.val (some (AV.bool (Int.ofNat a == Int.ofNat b))) (AV.bool r)).ok Try.prog := by
  simp only [Qst.ok]
  congr 2
  rw [Bool.eq_iff_iff, ← h]
  simp
  omega
section
variable {n : Nat} (hn : n < 1000000) {d : Array Int} (hd : n = d.size)
include hn hd
omit hn in
theorem o2_all {a b w : Nat} (ha : a < n) (hb : b < n) (hw : w < 1000) : CallB 83 [.osl 0 0 n 1, nA a, nA b, .ptr 1 0] d (nA w) (nA (order2 ltInt d a b w).2.2) (.tuple [nA (order2 ltInt d a b w).1, nA (order2 ltInt d a b w).2.1]) := by
  unfold order2
  cases hl : ltInt d[b]! d[a]! with
  | true =>
    rw [if_pos rfl]
    exact CSB (runX_sound mixed none_sound (o2_t n a b 0 0 0 0 0 0 0 0 0 w 0 0 0 0 d[a]! d[b]! 0 0 0 0 true (ur d) [] [] [] [] .nilFunc .nilFunc .nilFunc .nilFunc) ⟨idxP hb, ldP (by omega), idxP ha, ldP (by omega), lessB hl, wN _ (by first | rfl | (simp only [Int.ofNat_eq_natCast]; omega)) (by omega), trivial⟩) rfl rfl
  | false =>
    rw [if_neg (by simp)]
    exact CSB (runX_sound mixed none_sound (o2_f n a b 0 0 0 0 0 0 0 0 0 w 0 0 0 0 d[a]! d[b]! 0 0 0 0 true (ur d) [] [] [] [] .nilFunc .nilFunc .nilFunc .nilFunc) ⟨idxP hb, ldP (by omega), idxP ha, ldP (by omega), lessB hl, trivial⟩) rfl rfl
omit hn in
theorem md_all {a b c w : Nat} (ha : a < n) (hb : b < n) (hc : c < n) (hw : w < 900) : CallB 80 [.osl 0 0 n 1, nA a, nA b, nA c, .ptr 1 0] d (nA w) (nA (median ltInt d a b c w).2) (nA (median ltInt d a b c w).1) := by
  have h1 := o2_lt (d := d) (w := w) ha hb
  have h2 := o2_lt (d := d) (w := (order2 ltInt d a b w).2.2) h1.2.1 hc
  have k1 := o2_all hd ha hb (w := w) (by omega)
  have k2 := o2_all hd h1.2.1 hc (w := (order2 ltInt d a b w).2.2) (by omega)
  have k3 := o2_all hd h1.1 h2.1 (w := (order2 ltInt d (order2 ltInt d a b w).2.1 c (order2 ltInt d a b w).2.2).2.2) (by omega)
  exact CSB (runX_sound mixed none_sound (md n a b (order2 ltInt d a b w).2.1 (order2 ltInt d (order2 ltInt d a b w).2.1 c (order2 ltInt d a b w).2.2).1 (order2 ltInt d a b w).1 c 0 0 (median ltInt d a b c w).1 (order2 ltInt d (order2 ltInt d a b w).1 (order2 ltInt d (order2 ltInt d a b w).2.1 c (order2 ltInt d a b w).2.2).1 (order2 ltInt d (order2 ltInt d a b w).2.1 c (order2 ltInt d a b w).2.2).2.2).1 (order2 ltInt d (order2 ltInt d a b w).2.1 c (order2 ltInt d a b w).2.2).2.1 w (order2 ltInt d a b w).2.2 (order2 ltInt d (order2 ltInt d a b w).2.1 c (order2 ltInt d a b w).2.2).2.2 (median ltInt d a b c w).2 0 0 0 0 0 0 0 true (ur d) [] [] [] [] .nilFunc .nilFunc .nilFunc .nilFunc) ⟨k1 _ _ _, k2 _ _ _, k3 _ _ _, trivial⟩) rfl rfl
theorem ma_all {a w : Nat} (h1 : 1 ≤ a) (ha : a + 1 < n) (hw : w < 900) : CallB 79 [.osl 0 0 n 1, nA a, .ptr 1 0] d (nA w) (nA (medianAdjacent ltInt d a w).2) (nA (medianAdjacent ltInt d a w).1) := by
  have k := md_all hd (a := a - 1) (b := a) (c := a + 1) (w := w) (by omega) (by omega) ha hw
  exact CSB (runX_sound mixed none_sound (ma n a 0 0 0 0 0 0 0 (medianAdjacent ltInt d a w).1 0 0 w (medianAdjacent ltInt d a w).2 0 0 0 0 0 0 0 0 0 true (ur d) [] [] [] [] .nilFunc .nilFunc .nilFunc .nilFunc) ⟨wN _ (by first | rfl | (simp only [Int.ofNat_eq_natCast]; omega)) (by omega), wN _ (by first | rfl | (simp only [Int.ofNat_eq_natCast]; omega)) (by omega), k _ _ _, trivial⟩) rfl rfl
theorem cp_all {a b : Nat} (hb : b ≤ n) (hab : 12 < b - a) : CallP 67 [.osl 0 0 n 1, nA a, nA b] d d (.tuple [nA (choosePivot ltInt d a b).1, nA (hN (choosePivot ltInt d a b).2)]) := by
  intro esc esc' W
  obtain ⟨l, hl⟩ : ∃ l, l = (b - a) / 4 := ⟨_, rfl⟩
  by_cases h50 : b - a ≥ 50
  · obtain ⟨r1, e1⟩ : ∃ r, r = medianAdjacent ltInt d (a + (b - a) / 4 * 1) 0 := ⟨_, rfl⟩
    obtain ⟨r2, e2⟩ : ∃ r, r = medianAdjacent ltInt d (a + (b - a) / 4 * 2) r1.2 := ⟨_, rfl⟩
    obtain ⟨r3, e3⟩ : ∃ r, r = medianAdjacent ltInt d (a + (b - a) / 4 * 3) r2.2 := ⟨_, rfl⟩
    obtain ⟨r, er⟩ : ∃ r, r = median ltInt d r1.1 r2.1 r3.1 r3.2 := ⟨_, rfl⟩
    have ec : choosePivot ltInt d a b = (r.1, if r.2 = 0 then .increasing else if r.2 = 12 then .decreasing else .unknown) := by
      rw [er, e3, e2, e1]
      simp only [choosePivot]
      rw [if_pos (show b - a ≥ 8 by omega), if_pos h50]
    have b1 : r1.1 < n ∧ r1.2 ≤ 0 + 3 := e1 ▸ md_lt (by omega) (by omega) (by omega)
    have b2 : r2.1 < n ∧ r2.2 ≤ r1.2 + 3 := e2 ▸ md_lt (by omega) (by omega) (by omega)
    have b3 : r3.1 < n ∧ r3.2 ≤ r2.2 + 3 := e3 ▸ md_lt (by omega) (by omega) (by omega)
    have k1 := ma_all hn hd (a := a + (b - a) / 4 * 1) (w := 0) (by omega) (by omega) (by omega)
    have k2 := ma_all hn hd (a := a + (b - a) / 4 * 2) (w := r1.2) (by omega) (by omega) (by omega)
    have k3 := ma_all hn hd (a := a + (b - a) / 4 * 3) (w := r2.2) (by omega) (by omega) (by omega)
    have k4 := md_all hd b1.1 b2.1 b3.1 (w := r3.2) (by omega)
    rw [← e1] at k1
    rw [← e2] at k2
    rw [← e3] at k3
    rw [← er] at k4
    rw [ec]
    by_cases h0 : r.2 = 0
    · simp only [if_pos h0]
      exact CSA2 (runX_sound mixed none_sound (cp1i n a b r1.1 r2.1 0 0 0 0 r.1 0 r3.1 0 r1.2 r2.2 r3.2 r.2 0 0 0 0 0 0 true (ur d) [] [] [] [] .nilFunc .nilFunc .nilFunc .nilFunc) ⟨wN _ (by first | rfl | (simp only [Int.ofNat_eq_natCast]; omega)) (by omega), quoN rfl (by omega), wN _ (by first | rfl | (simp only [Int.ofNat_eq_natCast]; omega)) (by omega), wN _ (by first | rfl | (simp only [Int.ofNat_eq_natCast]; omega)) (by omega), quoN rfl (by omega), wN _ (by first | rfl | (simp only [Int.ofNat_eq_natCast]; omega)) (by omega), wN _ (by first | rfl | (simp only [Int.ofNat_eq_natCast]; omega)) (by omega), quoN rfl (by omega), wN _ (by first | rfl | (simp only [Int.ofNat_eq_natCast]; omega)) (by omega), wN _ (by first | rfl | (simp only [Int.ofNat_eq_natCast]; omega)) (by omega), bT (by simp; omega), bT (by simp; omega), k1 _ _ _, k2 _ _ _, k3 _ _ _, k4 _ _ _, eqB (by simp [h0]), trivial⟩) rfl rfl (ur_nm _ _) esc esc' W
    · by_cases h12 : r.2 = 12
      · simp only [if_neg h0, if_pos h12]
        exact CSA2 (runX_sound mixed none_sound (cp1d n a b r1.1 r2.1 0 0 0 0 r.1 0 r3.1 0 r1.2 r2.2 r3.2 r.2 0 0 0 0 0 0 true (ur d) [] [] [] [] .nilFunc .nilFunc .nilFunc .nilFunc) ⟨wN _ (by first | rfl | (simp only [Int.ofNat_eq_natCast]; omega)) (by omega), quoN rfl (by omega), wN _ (by first | rfl | (simp only [Int.ofNat_eq_natCast]; omega)) (by omega), wN _ (by first | rfl | (simp only [Int.ofNat_eq_natCast]; omega)) (by omega), quoN rfl (by omega), wN _ (by first | rfl | (simp only [Int.ofNat_eq_natCast]; omega)) (by omega), wN _ (by first | rfl | (simp only [Int.ofNat_eq_natCast]; omega)) (by omega), quoN rfl (by omega), wN _ (by first | rfl | (simp only [Int.ofNat_eq_natCast]; omega)) (by omega), wN _ (by first | rfl | (simp only [Int.ofNat_eq_natCast]; omega)) (by omega), bT (by simp; omega), bT (by simp; omega), k1 _ _ _, k2 _ _ _, k3 _ _ _, k4 _ _ _, eqB (by simp [h0]), eqB (by simp [h12]), trivial⟩) rfl rfl (ur_nm _ _) esc esc' W
      · simp only [if_neg h0, if_neg h12]
        exact CSA2 (runX_sound mixed none_sound (cp1u n a b r1.1 r2.1 0 0 0 0 r.1 0 r3.1 0 r1.2 r2.2 r3.2 r.2 0 0 0 0 0 0 true (ur d) [] [] [] [] .nilFunc .nilFunc .nilFunc .nilFunc) ⟨wN _ (by first | rfl | (simp only [Int.ofNat_eq_natCast]; omega)) (by omega), quoN rfl (by omega), wN _ (by first | rfl | (simp only [Int.ofNat_eq_natCast]; omega)) (by omega), wN _ (by first | rfl | (simp only [Int.ofNat_eq_natCast]; omega)) (by omega), quoN rfl (by omega), wN _ (by first | rfl | (simp only [Int.ofNat_eq_natCast]; omega)) (by omega), wN _ (by first | rfl | (simp only [Int.ofNat_eq_natCast]; omega)) (by omega), quoN rfl (by omega), wN _ (by first | rfl | (simp only [Int.ofNat_eq_natCast]; omega)) (by omega), wN _ (by first | rfl | (simp only [Int.ofNat_eq_natCast]; omega)) (by omega), bT (by simp; omega), bT (by simp; omega), k1 _ _ _, k2 _ _ _, k3 _ _ _, k4 _ _ _, eqB (by simp [h0]), eqB (by simp [h12]), trivial⟩) rfl rfl (ur_nm _ _) esc esc' W
  · obtain ⟨r, er⟩ : ∃ r, r = median ltInt d (a + (b - a) / 4 * 1) (a + (b - a) / 4 * 2) (a + (b - a) / 4 * 3) 0 := ⟨_, rfl⟩
    have ec : choosePivot ltInt d a b = (r.1, if r.2 = 0 then .increasing else if r.2 = 12 then .decreasing else .unknown) := by
      rw [er]
      simp only [choosePivot]
      rw [if_pos (show b - a ≥ 8 by omega), if_neg h50]
    have k4 := md_all hd (a := a + (b - a) / 4 * 1) (b := a + (b - a) / 4 * 2) (c := a + (b - a) / 4 * 3) (w := 0) (by omega) (by omega) (by omega) (by omega)
    rw [← er] at k4
    rw [ec]
    by_cases h0 : r.2 = 0
    · simp only [if_pos h0]
      exact CSA2 (runX_sound mixed none_sound (cp0i n a b 0 0 0 0 0 0 r.1 0 0 0 0 0 0 r.2 0 0 0 0 0 0 true (ur d) [] [] [] [] .nilFunc .nilFunc .nilFunc .nilFunc) ⟨wN _ (by first | rfl | (simp only [Int.ofNat_eq_natCast]; omega)) (by omega), quoN rfl (by omega), wN _ (by first | rfl | (simp only [Int.ofNat_eq_natCast]; omega)) (by omega), wN _ (by first | rfl | (simp only [Int.ofNat_eq_natCast]; omega)) (by omega), quoN rfl (by omega), wN _ (by first | rfl | (simp only [Int.ofNat_eq_natCast]; omega)) (by omega), wN _ (by first | rfl | (simp only [Int.ofNat_eq_natCast]; omega)) (by omega), quoN rfl (by omega), wN _ (by first | rfl | (simp only [Int.ofNat_eq_natCast]; omega)) (by omega), wN _ (by first | rfl | (simp only [Int.ofNat_eq_natCast]; omega)) (by omega), bT (by simp; omega), bF (by simp; omega), k4 _ _ _, eqB (by simp [h0]), trivial⟩) rfl rfl (ur_nm _ _) esc esc' W
    · by_cases h12 : r.2 = 12
      · simp only [if_neg h0, if_pos h12]
        exact CSA2 (runX_sound mixed none_sound (cp0d n a b 0 0 0 0 0 0 r.1 0 0 0 0 0 0 r.2 0 0 0 0 0 0 true (ur d) [] [] [] [] .nilFunc .nilFunc .nilFunc .nilFunc) ⟨wN _ (by first | rfl | (simp only [Int.ofNat_eq_natCast]; omega)) (by omega), quoN rfl (by omega), wN _ (by first | rfl | (simp only [Int.ofNat_eq_natCast]; omega)) (by omega), wN _ (by first | rfl | (simp only [Int.ofNat_eq_natCast]; omega)) (by omega), quoN rfl (by omega), wN _ (by first | rfl | (simp only [Int.ofNat_eq_natCast]; omega)) (by omega), wN _ (by first | rfl | (simp only [Int.ofNat_eq_natCast]; omega)) (by omega), quoN rfl (by omega), wN _ (by first | rfl | (simp only [Int.ofNat_eq_natCast]; omega)) (by omega), wN _ (by first | rfl | (simp only [Int.ofNat_eq_natCast]; omega)) (by omega), bT (by simp; omega), bF (by simp; omega), k4 _ _ _, eqB (by simp [h0]), eqB (by simp [h12]), trivial⟩) rfl rfl (ur_nm _ _) esc esc' W
      · simp only [if_neg h0, if_neg h12]
        exact CSA2 (runX_sound mixed none_sound (cp0u n a b 0 0 0 0 0 0 r.1 0 0 0 0 0 0 r.2 0 0 0 0 0 0 true (ur d) [] [] [] [] .nilFunc .nilFunc .nilFunc .nilFunc) ⟨wN _ (by first | rfl | (simp only [Int.ofNat_eq_natCast]; omega)) (by omega), quoN rfl (by omega), wN _ (by first | rfl | (simp only [Int.ofNat_eq_natCast]; omega)) (by omega), wN _ (by first | rfl | (simp only [Int.ofNat_eq_natCast]; omega)) (by omega), quoN rfl (by omega), wN _ (by first | rfl | (simp only [Int.ofNat_eq_natCast]; omega)) (by omega), wN _ (by first | rfl | (simp only [Int.ofNat_eq_natCast]; omega)) (by omega), quoN rfl (by omega), wN _ (by first | rfl | (simp only [Int.ofNat_eq_natCast]; omega)) (by omega), wN _ (by first | rfl | (simp only [Int.ofNat_eq_natCast]; omega)) (by omega), bT (by simp; omega), bF (by simp; omega), k4 _ _ _, eqB (by simp [h0]), eqB (by simp [h12]), trivial⟩) rfl rfl (ur_nm _ _) esc esc' W
end
end Go.Proofs.Ythooafgfpnedhaa.specsDo.pq
namespace Go.Proofs.Ythooafgfpnedhaa.specsDo.pq
open Go Go.Mini Go.Sort
/-! ### bits.Len, for small numbers; nextPowerOfTwo; xorshift -/
noncomputable def lenRun (w : Nat) := runX Try.prog none_ 60 61 (.call 61 [.int .u64 (Int.ofNat w)] ⟨⟨[], 0, none, []⟩, 1⟩) []
noncomputable def lenChk (w : Nat) : Bool := match lenRun w with
  | some (⟨.ret, [.int .i64 (.ofNat z)], ⟨⟨[], 0, none, []⟩, 1⟩⟩, [], []) => Nat.beq z (bitsLen w)
  | _ => false
theorem len_0 : ((List.range 50).all lenChk) = true := by kernel_rfl
theorem len_1 : ((List.range 50).all fun w => lenChk (w + 50)) = true := by kernel_rfl
theorem len_2 : ((List.range 50).all fun w => lenChk (w + 100)) = true := by kernel_rfl
theorem len_3 : ((List.range 51).all fun w => lenChk (w + 150)) = true := by kernel_rfl
theorem len_chk {w : Nat} (h : w ≤ 200) : lenChk w = true := by
  by_cases h1 : w < 50
  · exact List.all_eq_true.1 len_0 w (List.mem_range.2 h1)
  by_cases h2 : w < 100
  · have := List.all_eq_true.1 len_1 (w - 50) (List.mem_range.2 (by omega))
    rwa [Nat.sub_add_cancel (by omega)] at this
  by_cases h3 : w < 150
  · have := List.all_eq_true.1 len_2 (w - 100) (List.mem_range.2 (by omega))
    rwa [Nat.sub_add_cancel (by omega)] at this
  · have := List.all_eq_true.1 len_3 (w - 150) (List.mem_range.2 (by omega))
    rwa [Nat.sub_add_cancel (by omega)] at this
theorem lenC {w : Nat} (h : w ≤ 200) (s : AS) : Sound Try.prog (.call 61 [.int .u64 (Int.ofNat w)] s) ⟨.ret, [nA (bitsLen w)], s⟩ := by
  have hc := len_chk h
  have hr : lenRun w = some (⟨.ret, [nA (bitsLen w)], ⟨⟨[], 0, none, []⟩, 1⟩⟩, [], []) := by
    unfold lenChk at hc
    split at hc
    · rename_i z e
      rw [e, Nat.eq_of_beq_eq_true hc]
      rfl
    · cases hc
  exact Sound.put (bs0 := []) (runX_sound mixed none_sound hr trivial) noG (fun b => b) [] s trivial (fun b hb => by cases hb) List.nodup_nil List.nodup_nil (fun b hb => by cases hb) rfl rfl
theorem two64 : ((2 : Int) ^ IntKind.u64.bits).natAbs = 18446744073709551616 := by decide
theorem uq {x y : Nat} (hx : x % 18446744073709551616 = y) : (Qst.val (some (AV.int .u64 (Int.ofNat (x % ((2 : Int) ^ IntKind.u64.bits).natAbs)))) (AV.int .u64 (Int.ofNat y))).ok Try.prog := by
  simp only [Qst.ok, two64, hx]
theorem ofInt_nat (w : Nat) (h : w < 18446744073709551616) : (BitVec.ofInt IntKind.u64.bits (Int.ofNat w)).toNat = w := by
  show (BitVec.ofInt 64 (w : Int)).toNat = w
  rw [BitVec.ofInt_natCast, BitVec.toNat_ofNat]
  exact Nat.mod_eq_of_lt h
theorem npC {l : Nat} (h : l ≤ 200) (s : AS) : Sound Try.prog (.call 77 [nA l] s) ⟨.ret, [.int .u64 (Int.ofNat (1 <<< bitsLen l))], s⟩ := by
  have hk : bitsLen l ≤ 8 := (bitsLen_le_iff l 8).2 (by omega)
  have h2 : 2 ^ bitsLen l ≤ 2 ^ 8 := Nat.pow_le_pow_right (by omega) hk
  refine Sound.put (bs0 := []) (runX_sound mixed none_sound (np 0 0 0 0 0 0 0 0 0 (1<<<bitsLen l) l (bitsLen l) 0 0 0 0 0 0 0 0 0 0 0 true [] [] [] [] [] .nilFunc .nilFunc .nilFunc .nilFunc) ⟨uq (Nat.mod_eq_of_lt (by omega)), lenC h _, ?_, trivial⟩) noG (fun b => b) [] s trivial (fun b hb => by cases hb) List.nodup_nil List.nodup_nil (fun b hb => by cases hb) rfl rfl
  refine uq ?_
  show 1 * 2 ^ min (bitsLen l) 64 % 18446744073709551616 = 1 <<< bitsLen l
  rw [Nat.min_eq_left (by omega), Nat.shiftLeft_eq]
  exact Nat.mod_eq_of_lt (by omega)
theorem xq {w w1 : Nat} (h : w < 18446744073709551616) (h1 : w1 < 18446744073709551616) {y : Nat} (hy : y = w ^^^ w1) : (Qst.val (some (AV.int IntKind.u64 (Int.ofNat ((match BinOp.xor with | BinOp.and => BitVec.ofInt IntKind.u64.bits (Int.ofNat w) &&& BitVec.ofInt IntKind.u64.bits (Int.ofNat w1) | BinOp.or => BitVec.ofInt IntKind.u64.bits (Int.ofNat w) ||| BitVec.ofInt IntKind.u64.bits (Int.ofNat w1) | BinOp.xor => BitVec.ofInt IntKind.u64.bits (Int.ofNat w) ^^^ BitVec.ofInt IntKind.u64.bits (Int.ofNat w1) | _ => BitVec.ofInt IntKind.u64.bits (Int.ofNat w) &&& ~~~BitVec.ofInt IntKind.u64.bits (Int.ofNat w1)).toNat % ((2 : Int) ^ IntKind.u64.bits).natAbs)))) (AV.int IntKind.u64 (Int.ofNat y))).ok Try.prog := by
  refine uq ?_
  show (BitVec.ofInt IntKind.u64.bits (Int.ofNat w) ^^^ BitVec.ofInt IntKind.u64.bits (Int.ofNat w1)).toNat % 18446744073709551616 = y
  rw [BitVec.toNat_xor, ofInt_nat w h, ofInt_nat w1 h1, hy]
  exact Nat.mod_eq_of_lt (Nat.xor_lt_two_pow (n := 64) h h1)
theorem aq {w w1 : Nat} (h : w < 18446744073709551616) (h1 : w1 < 18446744073709551616) {y : Nat} (hy : y = w &&& w1) : (Qst.val (some (AV.int IntKind.u64 (Int.ofNat ((match BinOp.and with | BinOp.and => BitVec.ofInt IntKind.u64.bits (Int.ofNat w) &&& BitVec.ofInt IntKind.u64.bits (Int.ofNat w1) | BinOp.or => BitVec.ofInt IntKind.u64.bits (Int.ofNat w) ||| BitVec.ofInt IntKind.u64.bits (Int.ofNat w1) | BinOp.xor => BitVec.ofInt IntKind.u64.bits (Int.ofNat w) ^^^ BitVec.ofInt IntKind.u64.bits (Int.ofNat w1) | _ => BitVec.ofInt IntKind.u64.bits (Int.ofNat w) &&& ~~~BitVec.ofInt IntKind.u64.bits (Int.ofNat w1)).toNat % ((2 : Int) ^ IntKind.u64.bits).natAbs)))) (AV.int IntKind.u64 (Int.ofNat y))).ok Try.prog := by
  refine uq ?_
  show (BitVec.ofInt IntKind.u64.bits (Int.ofNat w) &&& BitVec.ofInt IntKind.u64.bits (Int.ofNat w1)).toNat % 18446744073709551616 = y
  rw [BitVec.toNat_and, ofInt_nat w h, ofInt_nat w1 h1, hy]
  exact Nat.mod_eq_of_lt (Nat.lt_of_le_of_lt Nat.and_le_left h)
theorem fq {w y : Nat} (hy : y = w / 128) : (Qst.val (some (AV.int IntKind.u64 ((Int.ofNat w).fdiv (Int.ofNat 128)))) (AV.int IntKind.u64 (Int.ofNat y))).ok Try.prog := by
  have e : (Int.ofNat w).fdiv (Int.ofNat 128) = Int.ofNat (w / 128) := by
    rw [Int.fdiv_eq_ediv_of_nonneg _ (by decide)]
    rfl
  simp only [Qst.ok, e, hy]
theorem nxC (w : Nat) (hw : w < 18446744073709551616) (s : AS) (hs : s.get 1 = some (.cells false [.int .u64 (Int.ofNat w)])) : Sound Try.prog (.call 78 [.ptr 1 0] s) ⟨.ret, [.int .u64 (Int.ofNat (xorNextN w))], s.set 1 (.cells false [.int .u64 (Int.ofNat (xorNextN w))])⟩ := by
  have p : (18446744073709551616 : Nat) = 2 ^ 64 := by decide
  obtain ⟨a, ha⟩ : ∃ a, a = w ^^^ (w * 8192 % 18446744073709551616) := ⟨_, rfl⟩
  obtain ⟨b, hb⟩ : ∃ b, b = a ^^^ (a / 128) := ⟨_, rfl⟩
  have e : xorNextN w = b ^^^ (b * 131072 % 18446744073709551616) := by rw [hb, ha]; rfl
  have la : a < 18446744073709551616 := by rw [ha, p]; exact Nat.xor_lt_two_pow (by omega) (by omega)
  have lb : b < 18446744073709551616 := by rw [hb, p]; exact Nat.xor_lt_two_pow (by omega) (by omega)
  rw [e]
  exact Sound.put (bs0 := [(1, .cells false [.int .u64 (Int.ofNat w)])]) (runX_sound mixed none_sound (nx 0 0 0 0 0 0 0 0 0 (b^^^(b*131072%18446744073709551616)) 0 (b*131072%18446744073709551616) w (w*8192%18446744073709551616) a (a/128) b 0 0 0 0 0 0 true [] [] [] [] [] .nilFunc .nilFunc .nilFunc .nilFunc)
    ⟨uq rfl, xq hw (by omega) ha, fq rfl, xq la (by omega) hb, uq rfl, xq lb (by omega) rfl, trivial⟩) noG (fun b => b) [] s ⟨⟨Nat.lt_succ_self 1, rfl, rfl, rfl, hs, .inl rfl, rfl⟩, trivial⟩ (fun a ha c hc _ => by simp at ha hc; omega) (by simp) List.nodup_nil (fun b hb => by cases hb) rfl rfl
/-! ### breakPatterns -/
theorem sameX {D D2 : List AV} {v v2 : AV} : sameBut [0, 1] (bsB v D) (bsB v2 D2) := ⟨_, _, rfl, rfl, .inl (by simp), _, _, rfl, rfl, .inl (by simp), rfl⟩
theorem SLX {c : Code} {ts ts1 ts2 : List AV} {D D2 : List AV} {w w2 : Nat} {e : AExit} {esc1 : Option Nat} {wr1 : List Nat} (h : Sound Try.prog (.code c ts ⟨⟨bsB (.int .u64 (Int.ofNat w)) D, 2, none, []⟩, 2⟩) ⟨e, ts1, ⟨⟨bsB (.int .u64 (Int.ofNat w2)) D2, 2, esc1, wr1⟩, 2⟩⟩) (hts : seesT (fun b => b) (fun c => Nat.blt c 2) ts2 ts1) (hD : namess (fun c => Nat.blt c 2) D2 = true) :
    SoundL Try.prog [0, 1] c ts (bsB (.int .u64 (Int.ofNat w)) D) 2 2 e ts2 (bsB (.int .u64 (Int.ofNat w2)) D2) :=
  SoundL.intro h hts sameX ⟨⟨rfl, rfl⟩, ⟨hD, rfl⟩, trivial⟩
def bstep (a l m : Nat) (st : Nat × Array Int) (idx : Nat) : Nat × Array Int :=
  let r := xorNextN st.1
  let o := r &&& (m - 1)
  let o := if o ≥ l then o - l else o
  (r, swp st.2 idx (a + o))
theorem bstep_eq (a l m : Nat) (r : UInt64) (d : Array Int) (idx : Nat) : bstep a l m (r.toNat, d) idx = ((breakStep a l m (r, d) idx).1.toNat, (breakStep a l m (r, d) idx).2) := by
  simp only [bstep, breakStep, xorNext_toNat]
section
variable {n : Nat} (hn : n < 1000000) {a l m : Nat} (hm : m ≤ 2 * l) (hm1 : 1 ≤ m) (hl8 : 8 ≤ l) (hal : a + l ≤ n)
include hn hm hm1 hl8 hal
theorem bp_step {w i : Nat} {d : Array Int} (hd : n = d.size) (hw : w < 18446744073709551616) (hi : i ≤ a + l / 4 * 2 + 1) :
    SoundL Try.prog [0, 1] (loopAt Try.prog 66 0) (T66 n a l m i) (bsB (.int .u64 (Int.ofNat w)) (ur d)) 2 2 .normal (T66 n a l m (i + 1)) (bsB (.int .u64 (Int.ofNat (bstep a l m (w, d) i).1)) (ur (bstep a l m (w, d) i).2)) := by
  have hx := xorNextN_lt w hw
  have hg : (xorNextN w &&& (m - 1)) ≤ m - 1 := Nat.and_le_right
  have eo : bstep a l m (w, d) i = (xorNextN w, swp d i (a + if (xorNextN w &&& (m - 1)) ≥ l then (xorNextN w &&& (m - 1)) - l else (xorNextN w &&& (m - 1)))) := rfl
  rw [eo]
  obtain ⟨g, eg⟩ : ∃ g, g = xorNextN w &&& (m - 1) := ⟨_, rfl⟩
  rw [← eg] at hg ⊢
  have u1 : (Qst.val (some (AV.int IntKind.u64 (IntKind.u64.wrap (Int.ofNat m - Int.ofNat 1)))) (AV.int IntKind.u64 (Int.ofNat (m - 1)))).ok Try.prog := by
    simp only [Qst.ok]
    congr 2
    simp [IntKind.wrap, IntKind.bits, IntKind.signed]
    omega
  by_cases hge : g ≥ l
  · rw [if_pos hge]
    refine SLX (runX_sound mixed none_sound (bp_go1 n a 0 i 0 0 g 0 0 m l 0 w (xorNextN w) 0 0 0 d[i]! d[a+(g-l)]! 0 0 0 0 true (ur d) (ur (d.setIfInBounds i d[a+(g-l)]!)) (ur (swp d i (a+(g-l)))) [] [] .nilFunc .nilFunc .nilFunc .nilFunc)
      ⟨quoN rfl (by omega), wN _ (by first | rfl | (simp only [Int.ofNat_eq_natCast]; omega)) (by omega), wN _ (by first | rfl | (simp only [Int.ofNat_eq_natCast]; omega)) (by omega), wN _ (by first | rfl | (simp only [Int.ofNat_eq_natCast]; omega)) (by omega), bT (by simp; omega), nxC w hw _ rfl, u1, aq hx (by omega) eg, wN _ (by first | rfl | (simp only [Int.ofNat_eq_natCast]; omega)) (by omega), bT (by simp; omega), wN _ (by first | rfl | (simp only [Int.ofNat_eq_natCast]; omega)) (by omega), wN _ (by first | rfl | (simp only [Int.ofNat_eq_natCast]; omega)) (by omega), wN _ (by first | rfl | (simp only [Int.ofNat_eq_natCast]; omega)) (by omega), idxP (by omega), ldP (by omega), idxP (by omega), ldP (by omega), idxP (by omega), stoP (by omega), idxP (by omega), stoP (by simp; omega), wN _ (by first | rfl | (simp only [Int.ofNat_eq_natCast]; omega)) (by omega), trivial⟩) ?_ (ur_nm _ _)
    unfold T66
    repeat (first | exact rfl | refine ⟨_, _, rfl, ?_, ?_⟩ | exact .inr ⟨rfl, rfl⟩ | exact .inl ⟨rfl, rfl⟩ | exact see_same _)
  · rw [if_neg hge]
    refine SLX (runX_sound mixed none_sound (bp_go0 n a 0 i 0 0 g 0 0 m l 0 w (xorNextN w) 0 0 0 d[i]! d[a+g]! 0 0 0 0 true (ur d) (ur (d.setIfInBounds i d[a+g]!)) (ur (swp d i (a+g))) [] [] .nilFunc .nilFunc .nilFunc .nilFunc)
      ⟨quoN rfl (by omega), wN _ (by first | rfl | (simp only [Int.ofNat_eq_natCast]; omega)) (by omega), wN _ (by first | rfl | (simp only [Int.ofNat_eq_natCast]; omega)) (by omega), wN _ (by first | rfl | (simp only [Int.ofNat_eq_natCast]; omega)) (by omega), bT (by simp; omega), nxC w hw _ rfl, u1, aq hx (by omega) eg, wN _ (by first | rfl | (simp only [Int.ofNat_eq_natCast]; omega)) (by omega), bF (by simp; omega), wN _ (by first | rfl | (simp only [Int.ofNat_eq_natCast]; omega)) (by omega), wN _ (by first | rfl | (simp only [Int.ofNat_eq_natCast]; omega)) (by omega), idxP (by omega), ldP (by omega), idxP (by omega), ldP (by omega), idxP (by omega), stoP (by omega), idxP (by omega), stoP (by simp; omega), wN _ (by first | rfl | (simp only [Int.ofNat_eq_natCast]; omega)) (by omega), trivial⟩) ?_ (ur_nm _ _)
    unfold T66
    repeat (first | exact rfl | refine ⟨_, _, rfl, ?_, ?_⟩ | exact .inr ⟨rfl, rfl⟩ | exact .inl ⟨rfl, rfl⟩ | exact see_same _)
omit hm hm1 hl8 in
theorem bp_end_ {w i : Nat} {d : Array Int} (hi : ¬ i ≤ a + l / 4 * 2 + 1) : SoundL Try.prog [0, 1] (.loop (loopAt Try.prog 66 0)) (T66 n a l m i) (bsB (.int .u64 (Int.ofNat w)) (ur d)) 2 2 (.exit 0) (T66 n a l m i) (bsB (.int .u64 (Int.ofNat w)) (ur d)) := by
  refine SoundL.stop (SLX (runX_sound mixed none_sound (bp_end n a 0 i 0 0 0 0 0 m l 0 w 0 0 0 0 0 0 0 0 0 0 true (ur d) [] [] [] [] .nilFunc .nilFunc .nilFunc .nilFunc) ⟨quoN rfl (by omega), wN _ (by first | rfl | (simp only [Int.ofNat_eq_natCast]; omega)) (by omega), wN _ (by first | rfl | (simp only [Int.ofNat_eq_natCast]; omega)) (by omega), wN _ (by first | rfl | (simp only [Int.ofNat_eq_natCast]; omega)) (by omega), bF (by simp; omega), trivial⟩) ?_ (ur_nm _ _)) (by simp)
  unfold T66
  repeat (first | exact rfl | refine ⟨_, _, rfl, ?_, ?_⟩ | exact .inr ⟨rfl, rfl⟩ | exact .inl ⟨rfl, rfl⟩ | exact see_same _)
end
theorem bp_all {n : Nat} (hn : n ≤ 200) {a b : Nat} (hb : b ≤ n) (hab : 12 < b - a) {d : Array Int} (hd : n = d.size) : CallP 66 [.osl 0 0 n 1, nA a, nA b] d (breakPatterns d a b) undefA := by
  intro esc esc' W
  obtain ⟨l, hl⟩ : ∃ l, l = b - a := ⟨_, rfl⟩
  obtain ⟨m, hm⟩ : ∃ m, m = 1 <<< bitsLen l := ⟨_, rfl⟩
  have hm2 : m = 2 ^ bitsLen l := by rw [hm, Nat.shiftLeft_eq, Nat.one_mul]
  have m1 : m ≤ 2 * l := by rw [hm2]; exact two_pow_bitsLen_le (by omega)
  have m0 : 1 ≤ m := by rw [hm2]; exact Nat.one_le_two_pow
  have e0 : breakPatterns d a b = (breakStep a l m (breakStep a l m (breakStep a l m (UInt64.ofNat l, d) (a + l / 4 * 2 - 1)) (a + l / 4 * 2 - 1 + 1)) (a + l / 4 * 2 - 1 + 2)).2 := by
    unfold breakPatterns
    simp only [← hl, ← hm]
    rw [if_pos (by omega)]
  obtain ⟨i, hi⟩ : ∃ i, i = a + l / 4 * 2 - 1 := ⟨_, rfl⟩
  rw [← hi] at e0
  have hu : (UInt64.ofNat l).toNat = l := by
    rw [UInt64.toNat_ofNat']
    exact Nat.mod_eq_of_lt (by omega)
  obtain ⟨s1, h1⟩ : ∃ s1, s1 = breakStep a l m (UInt64.ofNat l, d) i := ⟨_, rfl⟩
  obtain ⟨s2, h2⟩ : ∃ s2, s2 = breakStep a l m s1 (i + 1) := ⟨_, rfl⟩
  obtain ⟨s3, h3⟩ : ∃ s3, s3 = breakStep a l m s2 (i + 2) := ⟨_, rfl⟩
  have b1 : bstep a l m (l, d) i = (s1.1.toNat, s1.2) := by have := bstep_eq a l m (UInt64.ofNat l) d i; rw [hu] at this; rw [this, h1]
  have b2 : bstep a l m (s1.1.toNat, s1.2) (i + 1) = (s2.1.toNat, s2.2) := by rw [bstep_eq, h2]
  have b3 : bstep a l m (s2.1.toNat, s2.2) (i + 2) = (s3.1.toNat, s3.2) := by rw [bstep_eq, h3]
  have z1 : n = s1.2.size := by rw [h1]; simp [breakStep, hd]
  have z2 : n = s2.2.size := by rw [h2]; simp [breakStep, z1]
  have k1 := bp_step (n := n) (a := a) (by omega) m1 m0 (by omega) (by omega) hd (w := l) (i := i) (by omega) (by omega)
  have k2 := bp_step (n := n) (a := a) (by omega) m1 m0 (by omega) (by omega) z1 (w := s1.1.toNat) (i := i + 1) s1.1.toNat_lt (by omega)
  have k3 := bp_step (n := n) (a := a) (by omega) m1 m0 (by omega) (by omega) z2 (w := s2.1.toNat) (i := i + 2) s2.1.toNat_lt (by omega)
  rw [b1] at k1
  rw [b2] at k2
  rw [b3] at k3
  have k4 := bp_end_ (n := n) (a := a) (l := l) (m := m) (w := s3.1.toNat) (i := i + 3) (d := s3.2) (by omega) (by omega) (by omega)
  have h := (SoundL.next k1 (SoundL.next k2 (SoundL.next k3 k4))) none none ([1] ++ [])
  have e1 : breakPatterns d a b = s3.2 := by rw [e0, h3, h2, h1]
  rw [e1]
  refine CSA2 (runX_sound mixed none_sound (bp_call n a b (i+3) 0 0 0 0 0 m l 0 s3.1.toNat 0 0 0 0 0 0 0 0 0 0 true (ur d) (ur s3.2) [] [] [] .nilFunc .nilFunc .nilFunc .nilFunc) ⟨wN _ (by simp only [Int.ofNat_eq_natCast]; omega) (by omega), bT (by simp; omega), uq (Nat.mod_eq_of_lt (by omega)), hm ▸ npC (by omega) _, quoN rfl (by omega), wN _ (by first | rfl | (simp only [Int.ofNat_eq_natCast]; omega)) (by omega), wN _ (by first | rfl | (simp only [Int.ofNat_eq_natCast]; omega)) (by omega), wN _ (by simp only [Int.ofNat_eq_natCast]; omega) (by omega), Sound.enter h ?_, trivial⟩) rfl rfl (ur_nm _ _) esc esc' W
  rw [hi]
  unfold T66
  repeat (first | exact rfl | refine ⟨_, _, rfl, ?_, ?_⟩ | exact .inr ⟨rfl, rfl⟩ | exact .inl ⟨rfl, rfl⟩ | exact see_same _)
end Go.Proofs.Ythooafgfpnedhaa.specsDo.pq
namespace Go.Proofs.Ythooafgfpnedhaa.specsDo.pq
open Go Go.Mini
def T60 (n a b k : Nat) (t1 t2 : Bool) (u1 u2 u3 : AV) : List AV := .osl 0 0 n 1 :: .int .i64 (Int.ofNat a) :: .int .i64 (Int.ofNat b) :: .int .i64 (Int.ofNat k) :: uu :: uu :: uu :: uu :: .bool t1 :: .bool t2 :: u1 :: u2 :: u3 :: List.replicate 121 uu
def bk1 : Code → Code
  | .block _ c => c
  | c => c
noncomputable def qB : Code := bk1 (loopAt Try.prog 60 0)
noncomputable def q0 : Code := sL qB
noncomputable def q1 : Code := sL (sR qB)
noncomputable def q2 : Code := sL (sR (sR qB))
noncomputable def q3 : Code := sL (sR (sR (sR qB)))
noncomputable def q4 : Code := sL (sR (sR (sR (sR qB))))
noncomputable def q5 : Code := sL (sR (sR (sR (sR (sR qB)))))
noncomputable def q6 : Code := sL (sR (sR (sR (sR (sR (sR qB))))))
noncomputable def q7 : Code := sL (sR (sR (sR (sR (sR (sR (sR qB)))))))
noncomputable def q8 : Code := sR (sR (sR (sR (sR (sR (sR (sR qB)))))))
theorem pd_eq : loopAt Try.prog 60 0 = .block 1 (.seq q0 (.seq q1 (.seq q2 (.seq q3 (.seq q4 (.seq q5 (.seq q6 (.seq q7 q8)))))))) := by kernel_rfl
end Go.Proofs.Ythooafgfpnedhaa.specsDo.pq
namespace Go.Proofs.Ythooafgfpnedhaa.specsDo.pq
open Go Go.Mini
theorem q0_r (n a b _ _ _ _ _ _ _ _ k : Nat) (_ _ _ _ _ _ : Int) (_ t1 t2 _ : Bool) (D _ _ _ _ : List AV) (_ _ _ _ : AV) : runX Try.prog none_ 80 60 (.code q0 (T60 n a b k t1 t2 jq jq jq) ⟨⟨[(0, .cells false D)], 1, none, []⟩, 1⟩) [.val 60 2 2 (iN (b - a))] = some ({ e := .normal, ts := [.osl 0 0 n 1, iN a, iN b, iN k, jq, jq, jq, jq, .bool t1, .bool t2, iN (b - a), jq, jq, jq, jq, jq, jq, jq, jq, iN b, iN a, iN (b - a), jq, jq, jq, jq, jq, jq, jq, jq, jq, jq, jq, jq, jq, jq, jq, jq, jq, jq, jq, jq, jq, jq, jq, jq, jq, jq, jq, jq, jq, jq, jq, jq, jq, jq, jq, jq, jq, jq, jq, jq, jq, jq, jq, jq, jq, jq, jq, jq, jq, jq, jq, jq, jq, jq, jq, jq, jq, jq, jq, jq, jq, jq, jq, jq, jq, jq, jq, jq, jq, jq, jq, jq, jq, jq, jq, jq, jq, jq, jq, jq, jq, jq, jq, jq, jq, jq, jq, jq, jq, jq, jq, jq, jq, jq, jq, jq, jq, jq, jq, jq, jq, jq, jq, jq, jq, jq, jq, jq, jq, jq, jq, jq], s := ⟨⟨[(0, .cells false D)], 1, none, []⟩, 1⟩ }, [], [Qst.val (some (.int .i64 (IntKind.i64.wrap (Int.ofNat b - Int.ofNat a)))) (iN (b - a))]) := by kernel_rfl
theorem q1_s (n a b _ _ _ _ _ _ _ l k : Nat) (_ _ _ _ _ _ : Int) (_ t1 t2 _ : Bool) (D D1 _ _ _ : List AV) (_ _ _ _ : AV) : runX Try.prog none_ 80 60 (.code q1 (T60 n a b k t1 t2 (iN (l)) jq jq) ⟨⟨[(0, .cells false D)], 1, none, []⟩, 1⟩) [.val 60 3 1 (.bool true), .call 60 4 3 uD (fun s => s.set 0 (.cells false D1))] = some ({ e := .ret, ts := [.osl 0 0 n 1, iN a, iN b, iN k, jq, jq, jq, jq, .bool t1, .bool t2, iN l, jq, jq, jq, jq, jq, jq, jq, jq, jq, jq, jq, iN l, .bool true, .osl 0 0 n 1, iN a, iN b, uD, jq, jq, jq, jq, jq, jq, jq, jq, jq, jq, jq, jq, jq, jq, jq, jq, jq, jq, jq, jq, jq, jq, jq, jq, jq, jq, jq, jq, jq, jq, jq, jq, jq, jq, jq, jq, jq, jq, jq, jq, jq, jq, jq, jq, jq, jq, jq, jq, jq, jq, jq, jq, jq, jq, jq, jq, jq, jq, jq, jq, jq, jq, jq, jq, jq, jq, jq, jq, jq, jq, jq, jq, jq, jq, jq, jq, jq, jq, jq, jq, jq, jq, jq, jq, jq, jq, jq, jq, jq, jq, jq, jq, jq, jq, jq, jq, jq, jq, jq, jq, jq, jq, jq, jq, jq, jq], s := ⟨⟨[(0, .cells false D1)], 1, none, [0]⟩, 1⟩ }, [], [Qst.val (some (.bool (decide (Int.ofNat l ≤ 12)))) (.bool true), Qst.snd (Task.call 64 [.osl 0 0 n 1, iN a, iN b] ⟨⟨[(0, .cells false D)], 1, none, []⟩, 1⟩) { e := .ret, ts := [uD], s := ⟨⟨[(0, .cells false D1)], 1, none, [0]⟩, 1⟩ }]) := by kernel_rfl
theorem q1_n (n a b _ _ _ _ _ _ _ l k : Nat) (_ _ _ _ _ _ : Int) (_ t1 t2 _ : Bool) (D _ _ _ _ : List AV) (_ _ _ _ : AV) : runX Try.prog none_ 80 60 (.code q1 (T60 n a b k t1 t2 (iN (l)) jq jq) ⟨⟨[(0, .cells false D)], 1, none, []⟩, 1⟩) [.val 60 3 1 (.bool false)] = some ({ e := .normal, ts := [.osl 0 0 n 1, iN a, iN b, iN k, jq, jq, jq, jq, .bool t1, .bool t2, iN l, jq, jq, jq, jq, jq, jq, jq, jq, jq, jq, jq, iN l, .bool false, jq, jq, jq, jq, jq, jq, jq, jq, jq, jq, jq, jq, jq, jq, jq, jq, jq, jq, jq, jq, jq, jq, jq, jq, jq, jq, jq, jq, jq, jq, jq, jq, jq, jq, jq, jq, jq, jq, jq, jq, jq, jq, jq, jq, jq, jq, jq, jq, jq, jq, jq, jq, jq, jq, jq, jq, jq, jq, jq, jq, jq, jq, jq, jq, jq, jq, jq, jq, jq, jq, jq, jq, jq, jq, jq, jq, jq, jq, jq, jq, jq, jq, jq, jq, jq, jq, jq, jq, jq, jq, jq, jq, jq, jq, jq, jq, jq, jq, jq, jq, jq, jq, jq, jq, jq, jq, jq, jq, jq, jq], s := ⟨⟨[(0, .cells false D)], 1, none, []⟩, 1⟩ }, [], [Qst.val (some (.bool (decide (Int.ofNat l ≤ 12)))) (.bool false)]) := by kernel_rfl
theorem q2_s (n a b _ _ _ _ _ _ _ l k : Nat) (_ _ _ _ _ _ : Int) (_ t1 t2 _ : Bool) (D D1 _ _ _ : List AV) (_ _ _ _ : AV) : runX Try.prog none_ 80 60 (.code q2 (T60 n a b k t1 t2 (iN (l)) jq jq) ⟨⟨[(0, .cells false D)], 1, none, []⟩, 1⟩) [.val 60 5 1 (.bool true), .call 60 6 3 uD (fun s => s.set 0 (.cells false D1))] = some ({ e := .ret, ts := [.osl 0 0 n 1, iN a, iN b, iN k, jq, jq, jq, jq, .bool t1, .bool t2, iN l, jq, jq, jq, jq, jq, jq, jq, jq, jq, jq, jq, jq, jq, jq, jq, jq, jq, iN k, .bool true, .osl 0 0 n 1, iN a, iN b, uD, jq, jq, jq, jq, jq, jq, jq, jq, jq, jq, jq, jq, jq, jq, jq, jq, jq, jq, jq, jq, jq, jq, jq, jq, jq, jq, jq, jq, jq, jq, jq, jq, jq, jq, jq, jq, jq, jq, jq, jq, jq, jq, jq, jq, jq, jq, jq, jq, jq, jq, jq, jq, jq, jq, jq, jq, jq, jq, jq, jq, jq, jq, jq, jq, jq, jq, jq, jq, jq, jq, jq, jq, jq, jq, jq, jq, jq, jq, jq, jq, jq, jq, jq, jq, jq, jq, jq, jq, jq, jq, jq, jq, jq, jq, jq, jq, jq, jq, jq, jq], s := ⟨⟨[(0, .cells false D1)], 1, none, [0]⟩, 1⟩ }, [], [Qst.val (some (.bool (Int.ofNat k == Int.ofNat 0))) (.bool true), Qst.snd (Task.call 65 [.osl 0 0 n 1, iN a, iN b] ⟨⟨[(0, .cells false D)], 1, none, []⟩, 1⟩) { e := .ret, ts := [uD], s := ⟨⟨[(0, .cells false D1)], 1, none, [0]⟩, 1⟩ }]) := by kernel_rfl
theorem q2_n (n a b _ _ _ _ _ _ _ l k : Nat) (_ _ _ _ _ _ : Int) (_ t1 t2 _ : Bool) (D _ _ _ _ : List AV) (_ _ _ _ : AV) : runX Try.prog none_ 80 60 (.code q2 (T60 n a b k t1 t2 (iN (l)) jq jq) ⟨⟨[(0, .cells false D)], 1, none, []⟩, 1⟩) [.val 60 5 1 (.bool false)] = some ({ e := .normal, ts := [.osl 0 0 n 1, iN a, iN b, iN k, jq, jq, jq, jq, .bool t1, .bool t2, iN l, jq, jq, jq, jq, jq, jq, jq, jq, jq, jq, jq, jq, jq, jq, jq, jq, jq, iN k, .bool false, jq, jq, jq, jq, jq, jq, jq, jq, jq, jq, jq, jq, jq, jq, jq, jq, jq, jq, jq, jq, jq, jq, jq, jq, jq, jq, jq, jq, jq, jq, jq, jq, jq, jq, jq, jq, jq, jq, jq, jq, jq, jq, jq, jq, jq, jq, jq, jq, jq, jq, jq, jq, jq, jq, jq, jq, jq, jq, jq, jq, jq, jq, jq, jq, jq, jq, jq, jq, jq, jq, jq, jq, jq, jq, jq, jq, jq, jq, jq, jq, jq, jq, jq, jq, jq, jq, jq, jq, jq, jq, jq, jq, jq, jq, jq, jq, jq, jq, jq, jq, jq, jq, jq, jq], s := ⟨⟨[(0, .cells false D)], 1, none, []⟩, 1⟩ }, [], [Qst.val (some (.bool (Int.ofNat k == Int.ofNat 0))) (.bool false)]) := by kernel_rfl
theorem q3_f (n a b _ _ _ _ _ _ _ l k : Nat) (_ _ _ _ _ _ : Int) (_ _ t2 _ : Bool) (D D1 _ _ _ : List AV) (_ _ _ _ : AV) : runX Try.prog none_ 80 60 (.code q3 (T60 n a b k false t2 (iN (l)) jq jq) ⟨⟨[(0, .cells false D)], 1, none, []⟩, 1⟩) [.call 60 8 3 uD (fun s => s.set 0 (.cells false D1)), .val 60 9 1 (iN (k - 1))] = some ({ e := .normal, ts := [.osl 0 0 n 1, iN a, iN b, iN (k - 1), jq, jq, jq, jq, .bool false, .bool t2, iN l, jq, jq, jq, jq, jq, jq, jq, jq, jq, jq, jq, jq, jq, jq, jq, jq, jq, jq, jq, jq, jq, jq, jq, .bool false, .bool true, .osl 0 0 n 1, iN a, iN b, uD, iN k, iN (k - 1), jq, jq, jq, jq, jq, jq, jq, jq, jq, jq, jq, jq, jq, jq, jq, jq, jq, jq, jq, jq, jq, jq, jq, jq, jq, jq, jq, jq, jq, jq, jq, jq, jq, jq, jq, jq, jq, jq, jq, jq, jq, jq, jq, jq, jq, jq, jq, jq, jq, jq, jq, jq, jq, jq, jq, jq, jq, jq, jq, jq, jq, jq, jq, jq, jq, jq, jq, jq, jq, jq, jq, jq, jq, jq, jq, jq, jq, jq, jq, jq, jq, jq, jq, jq, jq, jq, jq, jq, jq, jq, jq, jq], s := ⟨⟨[(0, .cells false D1)], 1, none, [0]⟩, 1⟩ }, [], [Qst.snd (Task.call 66 [.osl 0 0 n 1, iN a, iN b] ⟨⟨[(0, .cells false D)], 1, none, []⟩, 1⟩) { e := .ret, ts := [uD], s := ⟨⟨[(0, .cells false D1)], 1, none, [0]⟩, 1⟩ }, Qst.val (some (.int .i64 (IntKind.i64.wrap (Int.ofNat k - Int.ofNat 1)))) (iN (k - 1))]) := by kernel_rfl
theorem q3_t (n a b _ _ _ _ _ _ _ l k : Nat) (_ _ _ _ _ _ : Int) (_ _ t2 _ : Bool) (D _ _ _ _ : List AV) (_ _ _ _ : AV) : runX Try.prog none_ 80 60 (.code q3 (T60 n a b k true t2 (iN (l)) jq jq) ⟨⟨[(0, .cells false D)], 1, none, []⟩, 1⟩) [] = some ({ e := .normal, ts := [.osl 0 0 n 1, iN a, iN b, iN k, jq, jq, jq, jq, .bool true, .bool t2, iN l, jq, jq, jq, jq, jq, jq, jq, jq, jq, jq, jq, jq, jq, jq, jq, jq, jq, jq, jq, jq, jq, jq, jq, .bool true, .bool false, jq, jq, jq, jq, jq, jq, jq, jq, jq, jq, jq, jq, jq, jq, jq, jq, jq, jq, jq, jq, jq, jq, jq, jq, jq, jq, jq, jq, jq, jq, jq, jq, jq, jq, jq, jq, jq, jq, jq, jq, jq, jq, jq, jq, jq, jq, jq, jq, jq, jq, jq, jq, jq, jq, jq, jq, jq, jq, jq, jq, jq, jq, jq, jq, jq, jq, jq, jq, jq, jq, jq, jq, jq, jq, jq, jq, jq, jq, jq, jq, jq, jq, jq, jq, jq, jq, jq, jq, jq, jq, jq, jq, jq, jq, jq, jq, jq, jq], s := ⟨⟨[(0, .cells false D)], 1, none, []⟩, 1⟩ }, [], []) := by kernel_rfl
theorem q4_r (n a b _ _ h _ p _ _ l k : Nat) (_ _ _ _ _ _ : Int) (_ t1 t2 _ : Bool) (D D1 _ _ _ : List AV) (_ _ _ _ : AV) : runX Try.prog none_ 80 60 (.code q4 (T60 n a b k t1 t2 (iN (l)) jq jq) ⟨⟨[(0, .cells false D)], 1, none, []⟩, 1⟩) [.call 60 10 3 (.tuple [(iN (p)), (iN (h))]) (fun s => s.set 0 (.cells false D1))] = some ({ e := .normal, ts := [.osl 0 0 n 1, iN a, iN b, iN k, jq, jq, jq, jq, .bool t1, .bool t2, iN l, iN p, iN h, jq, jq, jq, jq, jq, jq, jq, jq, jq, jq, jq, jq, jq, jq, jq, jq, jq, jq, jq, jq, jq, jq, jq, jq, jq, jq, jq, jq, jq, .tuple [iN p, iN h], .osl 0 0 n 1, iN a, iN b, .tuple [iN p, iN h], iN p, iN h, jq, jq, jq, jq, jq, jq, jq, jq, jq, jq, jq, jq, jq, jq, jq, jq, jq, jq, jq, jq, jq, jq, jq, jq, jq, jq, jq, jq, jq, jq, jq, jq, jq, jq, jq, jq, jq, jq, jq, jq, jq, jq, jq, jq, jq, jq, jq, jq, jq, jq, jq, jq, jq, jq, jq, jq, jq, jq, jq, jq, jq, jq, jq, jq, jq, jq, jq, jq, jq, jq, jq, jq, jq, jq, jq, jq, jq, jq, jq, jq, jq, jq, jq, jq, jq], s := ⟨⟨[(0, .cells false D1)], 1, none, [0]⟩, 1⟩ }, [], [Qst.snd (Task.call 67 [.osl 0 0 n 1, iN a, iN b] ⟨⟨[(0, .cells false D)], 1, none, []⟩, 1⟩) { e := .ret, ts := [.tuple [iN p, iN h]], s := ⟨⟨[(0, .cells false D1)], 1, none, [0]⟩, 1⟩ }]) := by kernel_rfl
theorem q5_d (n a b _ _ h _ p _ _ l k : Nat) (_ _ _ _ _ _ : Int) (_ t1 t2 _ : Bool) (D D1 _ _ _ : List AV) (_ _ _ _ : AV) : runX Try.prog none_ 80 60 (.code q5 (T60 n a b k t1 t2 (iN (l)) (iN (p)) (iN (h))) ⟨⟨[(0, .cells false D)], 1, none, []⟩, 1⟩) [.val 60 11 1 (.bool true), .call 60 12 3 uD (fun s => s.set 0 (.cells false D1)), .val 60 13 1 (iN (b - 1)), .val 60 13 4 (iN (p - a)), .val 60 13 5 (.int .i64 (Int.ofNat (b - 1 - (p - a))))] = some ({ e := .normal, ts := [.osl 0 0 n 1, iN a, iN b, iN k, jq, jq, jq, jq, .bool t1, .bool t2, iN l, .int .i64 (Int.ofNat (b - 1 - (p - a))), iN 1, jq, jq, jq, jq, jq, jq, jq, jq, jq, jq, jq, jq, jq, jq, jq, jq, jq, jq, jq, jq, jq, jq, jq, jq, jq, jq, jq, jq, jq, jq, jq, jq, jq, jq, jq, jq, iN h, .bool true, .osl 0 0 n 1, iN a, iN b, uD, iN b, iN (b - 1), iN p, iN a, iN (p - a), .int .i64 (Int.ofNat (b - 1 - (p - a))), jq, jq, jq, jq, jq, jq, jq, jq, jq, jq, jq, jq, jq, jq, jq, jq, jq, jq, jq, jq, jq, jq, jq, jq, jq, jq, jq, jq, jq, jq, jq, jq, jq, jq, jq, jq, jq, jq, jq, jq, jq, jq, jq, jq, jq, jq, jq, jq, jq, jq, jq, jq, jq, jq, jq, jq, jq, jq, jq, jq, jq, jq, jq, jq, jq, jq, jq, jq, jq, jq, jq, jq, jq], s := ⟨⟨[(0, .cells false D1)], 1, none, [0]⟩, 1⟩ }, [], [Qst.val (some (.bool (Int.ofNat h == Int.ofNat 2))) (.bool true), Qst.snd (Task.call 68 [.osl 0 0 n 1, iN a, iN b] ⟨⟨[(0, .cells false D)], 1, none, []⟩, 1⟩) { e := .ret, ts := [uD], s := ⟨⟨[(0, .cells false D1)], 1, none, [0]⟩, 1⟩ }, Qst.val (some (.int .i64 (IntKind.i64.wrap (Int.ofNat b - Int.ofNat 1)))) (iN (b - 1)), Qst.val (some (.int .i64 (IntKind.i64.wrap (Int.ofNat p - Int.ofNat a)))) (iN (p - a)), Qst.val (some (.int .i64 (IntKind.i64.wrap (Int.ofNat (b - 1) - Int.ofNat (p - a))))) (.int .i64 (Int.ofNat (b - 1 - (p - a))))]) := by kernel_rfl
theorem q5_n (n a b _ _ h _ p _ _ l k : Nat) (_ _ _ _ _ _ : Int) (_ t1 t2 _ : Bool) (D _ _ _ _ : List AV) (_ _ _ _ : AV) : runX Try.prog none_ 80 60 (.code q5 (T60 n a b k t1 t2 (iN (l)) (iN (p)) (iN (h))) ⟨⟨[(0, .cells false D)], 1, none, []⟩, 1⟩) [.val 60 11 1 (.bool false)] = some ({ e := .normal, ts := [.osl 0 0 n 1, iN a, iN b, iN k, jq, jq, jq, jq, .bool t1, .bool t2, iN l, iN p, iN h, jq, jq, jq, jq, jq, jq, jq, jq, jq, jq, jq, jq, jq, jq, jq, jq, jq, jq, jq, jq, jq, jq, jq, jq, jq, jq, jq, jq, jq, jq, jq, jq, jq, jq, jq, jq, iN h, .bool false, jq, jq, jq, jq, jq, jq, jq, jq, jq, jq, jq, jq, jq, jq, jq, jq, jq, jq, jq, jq, jq, jq, jq, jq, jq, jq, jq, jq, jq, jq, jq, jq, jq, jq, jq, jq, jq, jq, jq, jq, jq, jq, jq, jq, jq, jq, jq, jq, jq, jq, jq, jq, jq, jq, jq, jq, jq, jq, jq, jq, jq, jq, jq, jq, jq, jq, jq, jq, jq, jq, jq, jq, jq, jq, jq, jq, jq, jq, jq, jq, jq, jq, jq], s := ⟨⟨[(0, .cells false D)], 1, none, []⟩, 1⟩ }, [], [Qst.val (some (.bool (Int.ofNat h == Int.ofNat 2))) (.bool false)]) := by kernel_rfl
theorem q6_f (n a b _ _ h _ p _ _ l k : Nat) (_ _ _ _ _ _ : Int) (_ _ t2 _ : Bool) (D _ _ _ _ : List AV) (_ _ _ _ : AV) : runX Try.prog none_ 80 60 (.code q6 (T60 n a b k false t2 (iN (l)) (iN (p)) (iN (h))) ⟨⟨[(0, .cells false D)], 1, none, []⟩, 1⟩) [] = some ({ e := .normal, ts := [.osl 0 0 n 1, iN a, iN b, iN k, jq, jq, jq, jq, .bool false, .bool t2, iN l, iN p, iN h, jq, jq, jq, jq, jq, jq, jq, jq, jq, jq, jq, jq, jq, jq, jq, jq, jq, jq, jq, jq, jq, jq, jq, jq, jq, jq, jq, jq, jq, jq, jq, jq, jq, jq, jq, jq, jq, jq, jq, jq, jq, jq, jq, jq, jq, jq, jq, jq, .bool false, .bool false, uD, .bool false, .bool false, uD, uD, .bool false, jq, jq, jq, jq, jq, jq, jq, jq, jq, jq, jq, jq, jq, jq, jq, jq, jq, jq, jq, jq, jq, jq, jq, jq, jq, jq, jq, jq, jq, jq, jq, jq, jq, jq, jq, jq, jq, jq, jq, jq, jq, jq, jq, jq, jq, jq, jq, jq, jq, jq, jq, jq, jq, jq, jq, jq, jq, jq, jq, jq, jq, jq, jq, jq, jq], s := ⟨⟨[(0, .cells false D)], 1, none, []⟩, 1⟩ }, [], []) := by kernel_rfl
theorem q6_tf (n a b _ _ h _ p _ _ l k : Nat) (_ _ _ _ _ _ : Int) (_ _ _ _ : Bool) (D _ _ _ _ : List AV) (_ _ _ _ : AV) : runX Try.prog none_ 80 60 (.code q6 (T60 n a b k true false (iN (l)) (iN (p)) (iN (h))) ⟨⟨[(0, .cells false D)], 1, none, []⟩, 1⟩) [] = some ({ e := .normal, ts := [.osl 0 0 n 1, iN a, iN b, iN k, jq, jq, jq, jq, .bool true, .bool false, iN l, iN p, iN h, jq, jq, jq, jq, jq, jq, jq, jq, jq, jq, jq, jq, jq, jq, jq, jq, jq, jq, jq, jq, jq, jq, jq, jq, jq, jq, jq, jq, jq, jq, jq, jq, jq, jq, jq, jq, jq, jq, jq, jq, jq, jq, jq, jq, jq, jq, jq, jq, .bool true, .bool true, .bool false, .bool false, .bool false, uD, uD, .bool false, jq, jq, jq, jq, jq, jq, jq, jq, jq, jq, jq, jq, jq, jq, jq, jq, jq, jq, jq, jq, jq, jq, jq, jq, jq, jq, jq, jq, jq, jq, jq, jq, jq, jq, jq, jq, jq, jq, jq, jq, jq, jq, jq, jq, jq, jq, jq, jq, jq, jq, jq, jq, jq, jq, jq, jq, jq, jq, jq, jq, jq, jq, jq, jq, jq], s := ⟨⟨[(0, .cells false D)], 1, none, []⟩, 1⟩ }, [], []) := by kernel_rfl
theorem q6_no (n a b _ _ h _ p _ _ l k : Nat) (_ _ _ _ _ _ : Int) (_ _ _ _ : Bool) (D _ _ _ _ : List AV) (_ _ _ _ : AV) : runX Try.prog none_ 80 60 (.code q6 (T60 n a b k true true (iN (l)) (iN (p)) (iN (h))) ⟨⟨[(0, .cells false D)], 1, none, []⟩, 1⟩) [.val 60 15 6 (.bool false)] = some ({ e := .normal, ts := [.osl 0 0 n 1, iN a, iN b, iN k, jq, jq, jq, jq, .bool true, .bool true, iN l, iN p, iN h, jq, jq, jq, jq, jq, jq, jq, jq, jq, jq, jq, jq, jq, jq, jq, jq, jq, jq, jq, jq, jq, jq, jq, jq, jq, jq, jq, jq, jq, jq, jq, jq, jq, jq, jq, jq, jq, jq, jq, jq, jq, jq, jq, jq, jq, jq, jq, jq, .bool true, .bool true, .bool true, .bool true, .bool true, iN h, .bool false, .bool false, jq, jq, jq, jq, jq, jq, jq, jq, jq, jq, jq, jq, jq, jq, jq, jq, jq, jq, jq, jq, jq, jq, jq, jq, jq, jq, jq, jq, jq, jq, jq, jq, jq, jq, jq, jq, jq, jq, jq, jq, jq, jq, jq, jq, jq, jq, jq, jq, jq, jq, jq, jq, jq, jq, jq, jq, jq, jq, jq, jq, jq, jq, jq, jq, jq], s := ⟨⟨[(0, .cells false D)], 1, none, []⟩, 1⟩ }, [], [Qst.val (some (.bool (Int.ofNat h == Int.ofNat 1))) (.bool false)]) := by kernel_rfl
theorem q6_ret (n a b _ _ h _ p _ _ l k : Nat) (_ _ _ _ _ _ : Int) (_ _ _ _ : Bool) (D D1 _ _ _ : List AV) (_ _ _ _ : AV) : runX Try.prog none_ 80 60 (.code q6 (T60 n a b k true true (iN (l)) (iN (p)) (iN (h))) ⟨⟨[(0, .cells false D)], 1, none, []⟩, 1⟩) [.val 60 15 6 (.bool true), .call 60 16 3 (.bool true) (fun s => s.set 0 (.cells false D1))] = some ({ e := .ret, ts := [.osl 0 0 n 1, iN a, iN b, iN k, jq, jq, jq, jq, .bool true, .bool true, iN l, iN p, iN h, jq, jq, jq, jq, jq, jq, jq, jq, jq, jq, jq, jq, jq, jq, jq, jq, jq, jq, jq, jq, jq, jq, jq, jq, jq, jq, jq, jq, jq, jq, jq, jq, jq, jq, jq, jq, jq, jq, jq, jq, jq, jq, jq, jq, jq, jq, jq, jq, .bool true, .bool true, .bool true, .bool true, .bool true, iN h, .bool true, .bool true, .osl 0 0 n 1, iN a, iN b, .bool true, jq, jq, jq, jq, jq, jq, jq, jq, jq, jq, jq, jq, jq, jq, jq, jq, jq, jq, jq, jq, jq, jq, jq, jq, jq, jq, jq, jq, jq, jq, jq, jq, jq, jq, jq, jq, jq, jq, jq, jq, jq, jq, jq, jq, jq, jq, jq, jq, jq, jq, jq, jq, jq, jq, jq, jq, jq, jq, jq, jq, jq], s := ⟨⟨[(0, .cells false D1)], 1, none, [0]⟩, 1⟩ }, [], [Qst.val (some (.bool (Int.ofNat h == Int.ofNat 1))) (.bool true), Qst.snd (Task.call 69 [.osl 0 0 n 1, iN a, iN b] ⟨⟨[(0, .cells false D)], 1, none, []⟩, 1⟩) { e := .ret, ts := [.bool true], s := ⟨⟨[(0, .cells false D1)], 1, none, [0]⟩, 1⟩ }]) := by kernel_rfl
theorem q6_go (n a b _ _ h _ p _ _ l k : Nat) (_ _ _ _ _ _ : Int) (_ _ _ _ : Bool) (D D1 _ _ _ : List AV) (_ _ _ _ : AV) : runX Try.prog none_ 80 60 (.code q6 (T60 n a b k true true (iN (l)) (iN (p)) (iN (h))) ⟨⟨[(0, .cells false D)], 1, none, []⟩, 1⟩) [.val 60 15 6 (.bool true), .call 60 16 3 (.bool false) (fun s => s.set 0 (.cells false D1))] = some ({ e := .normal, ts := [.osl 0 0 n 1, iN a, iN b, iN k, jq, jq, jq, jq, .bool true, .bool true, iN l, iN p, iN h, jq, jq, jq, jq, jq, jq, jq, jq, jq, jq, jq, jq, jq, jq, jq, jq, jq, jq, jq, jq, jq, jq, jq, jq, jq, jq, jq, jq, jq, jq, jq, jq, jq, jq, jq, jq, jq, jq, jq, jq, jq, jq, jq, jq, jq, jq, jq, jq, .bool true, .bool true, .bool true, .bool true, .bool true, iN h, .bool true, .bool true, .osl 0 0 n 1, iN a, iN b, .bool false, jq, jq, jq, jq, jq, jq, jq, jq, jq, jq, jq, jq, jq, jq, jq, jq, jq, jq, jq, jq, jq, jq, jq, jq, jq, jq, jq, jq, jq, jq, jq, jq, jq, jq, jq, jq, jq, jq, jq, jq, jq, jq, jq, jq, jq, jq, jq, jq, jq, jq, jq, jq, jq, jq, jq, jq, jq, jq, jq, jq, jq], s := ⟨⟨[(0, .cells false D1)], 1, none, [0]⟩, 1⟩ }, [], [Qst.val (some (.bool (Int.ofNat h == Int.ofNat 1))) (.bool true), Qst.snd (Task.call 69 [.osl 0 0 n 1, iN a, iN b] ⟨⟨[(0, .cells false D)], 1, none, []⟩, 1⟩) { e := .ret, ts := [.bool false], s := ⟨⟨[(0, .cells false D1)], 1, none, [0]⟩, 1⟩ }]) := by kernel_rfl
theorem q7_0 (n a b _ _ _ _ p _ _ l k : Nat) (_ _ _ _ _ _ : Int) (_ t1 t2 _ : Bool) (D _ _ _ _ : List AV) (_ _ _ _ : AV) : runX Try.prog none_ 80 60 (.code q7 (T60 n a b k t1 t2 (iN (l)) (iN (p)) jq) ⟨⟨[(0, .cells false D)], 1, none, []⟩, 1⟩) [.val 60 17 1 (.bool false)] = some ({ e := .normal, ts := [.osl 0 0 n 1, iN a, iN b, iN k, jq, jq, jq, jq, .bool t1, .bool t2, iN l, iN p, jq, jq, jq, jq, jq, jq, jq, jq, jq, jq, jq, jq, jq, jq, jq, jq, jq, jq, jq, jq, jq, jq, jq, jq, jq, jq, jq, jq, jq, jq, jq, jq, jq, jq, jq, jq, jq, jq, jq, jq, jq, jq, jq, jq, jq, jq, jq, jq, jq, jq, jq, jq, jq, jq, jq, jq, jq, jq, jq, jq, jq, iN a, .bool false, .bool false, uD, uD, uD, uD, uD, uD, uD, uD, uD, uD, uD, .bool false, jq, jq, jq, jq, jq, jq, jq, jq, jq, jq, jq, jq, jq, jq, jq, jq, jq, jq, jq, jq, jq, jq, jq, jq, jq, jq, jq, jq, jq, jq, jq, jq, jq, jq, jq, jq, jq, jq, jq, jq, jq, jq, jq, jq, jq, jq], s := ⟨⟨[(0, .cells false D)], 1, none, []⟩, 1⟩ }, [], [Qst.val (some (.bool (decide (Int.ofNat a > 0)))) (.bool false)]) := by kernel_rfl
theorem q7_lt (n a b _ _ _ _ p _ _ l k : Nat) (x y _ _ _ _ : Int) (_ t1 t2 _ : Bool) (D _ _ _ _ : List AV) (_ _ _ _ : AV) : runX Try.prog none_ 80 60 (.code q7 (T60 n a b k t1 t2 (iN (l)) (iN (p)) jq) ⟨⟨[(0, .cells false D)], 1, none, []⟩, 1⟩) [.val 60 17 1 (.bool true), .val 60 17 5 (iN (a - 1)), .val 60 17 6 (.ptr 0 (a - 1)), .val 60 17 7 (iW x), .val 60 17 10 (.ptr 0 (p)), .val 60 17 11 (iW y), .call 60 17 12 (.bool true) id] = some ({ e := .normal, ts := [.osl 0 0 n 1, iN a, iN b, iN k, jq, jq, jq, jq, .bool t1, .bool t2, iN l, iN p, jq, jq, jq, jq, jq, jq, jq, jq, jq, jq, jq, jq, jq, jq, jq, jq, jq, jq, jq, jq, jq, jq, jq, jq, jq, jq, jq, jq, jq, jq, jq, jq, jq, jq, jq, jq, jq, jq, jq, jq, jq, jq, jq, jq, jq, jq, jq, jq, jq, jq, jq, jq, jq, jq, jq, jq, jq, jq, jq, jq, jq, iN a, .bool true, .bool true, .osl 0 0 n 1, iN a, iN (a - 1), .ptr 0 (a - 1), iW x, .osl 0 0 n 1, iN p, .ptr 0 p, iW y, .bool true, .bool false, .bool false, jq, jq, jq, jq, jq, jq, jq, jq, jq, jq, jq, jq, jq, jq, jq, jq, jq, jq, jq, jq, jq, jq, jq, jq, jq, jq, jq, jq, jq, jq, jq, jq, jq, jq, jq, jq, jq, jq, jq, jq, jq, jq, jq, jq, jq, jq], s := ⟨⟨[(0, .cells false D)], 1, none, []⟩, 1⟩ }, [], [Qst.val (some (.bool (decide (Int.ofNat a > 0)))) (.bool true), Qst.val (some (.int .i64 (IntKind.i64.wrap (Int.ofNat a - Int.ofNat 1)))) (iN (a - 1)), Qst.idx 30 (.osl 0 0 n 1) (iN (a - 1)) (.ptr 0 (a - 1)), Qst.ld 22 ⟨⟨[(0, .cells false D)], 1, none, []⟩, 1⟩ (.ptr 0 (a - 1)) (iW x), Qst.idx 30 (.osl 0 0 n 1) (iN p) (.ptr 0 p), Qst.ld 22 ⟨⟨[(0, .cells false D)], 1, none, []⟩, 1⟩ (.ptr 0 p) (iW y), Qst.snd (Task.call 70 [iW x, iW y] ⟨⟨[(0, .cells false D)], 1, none, []⟩, 1⟩) { e := .ret, ts := [.bool true], s := ⟨⟨[(0, .cells false D)], 1, none, []⟩, 1⟩ }]) := by kernel_rfl
theorem q7_eq (n a b _ _ _ g p _ _ l k : Nat) (x y _ _ _ _ : Int) (_ t1 t2 _ : Bool) (D D1 _ _ _ : List AV) (_ _ _ _ : AV) : runX Try.prog none_ 80 60 (.code q7 (T60 n a b k t1 t2 (iN (l)) (iN (p)) jq) ⟨⟨[(0, .cells false D)], 1, none, []⟩, 1⟩) [.val 60 17 1 (.bool true), .val 60 17 5 (iN (a - 1)), .val 60 17 6 (.ptr 0 (a - 1)), .val 60 17 7 (iW x), .val 60 17 10 (.ptr 0 (p)), .val 60 17 11 (iW y), .call 60 17 12 (.bool false) id, .call 60 18 4 (iN (g)) (fun s => s.set 0 (.cells false D1))] = some ({ e := .exit 1, ts := [.osl 0 0 n 1, iN g, iN b, iN k, jq, jq, jq, jq, .bool t1, .bool t2, iN l, iN p, jq, iN g, jq, jq, jq, jq, jq, jq, jq, jq, jq, jq, jq, jq, jq, jq, jq, jq, jq, jq, jq, jq, jq, jq, jq, jq, jq, jq, jq, jq, jq, jq, jq, jq, jq, jq, jq, jq, jq, jq, jq, jq, jq, jq, jq, jq, jq, jq, jq, jq, jq, jq, jq, jq, jq, jq, jq, jq, jq, jq, jq, iN a, .bool true, .bool true, .osl 0 0 n 1, iN a, iN (a - 1), .ptr 0 (a - 1), iW x, .osl 0 0 n 1, iN p, .ptr 0 p, iW y, .bool false, .bool true, .bool true, .osl 0 0 n 1, iN a, iN b, iN p, iN g, iN g, jq, jq, jq, jq, jq, jq, jq, jq, jq, jq, jq, jq, jq, jq, jq, jq, jq, jq, jq, jq, jq, jq, jq, jq, jq, jq, jq, jq, jq, jq, jq, jq, jq, jq, jq, jq, jq, jq, jq, jq], s := ⟨⟨[(0, .cells false D1)], 1, none, [0]⟩, 1⟩ }, [], [Qst.val (some (.bool (decide (Int.ofNat a > 0)))) (.bool true), Qst.val (some (.int .i64 (IntKind.i64.wrap (Int.ofNat a - Int.ofNat 1)))) (iN (a - 1)), Qst.idx 30 (.osl 0 0 n 1) (iN (a - 1)) (.ptr 0 (a - 1)), Qst.ld 22 ⟨⟨[(0, .cells false D)], 1, none, []⟩, 1⟩ (.ptr 0 (a - 1)) (iW x), Qst.idx 30 (.osl 0 0 n 1) (iN p) (.ptr 0 p), Qst.ld 22 ⟨⟨[(0, .cells false D)], 1, none, []⟩, 1⟩ (.ptr 0 p) (iW y), Qst.snd (Task.call 70 [iW x, iW y] ⟨⟨[(0, .cells false D)], 1, none, []⟩, 1⟩) { e := .ret, ts := [.bool false], s := ⟨⟨[(0, .cells false D)], 1, none, []⟩, 1⟩ }, Qst.snd (Task.call 71 [.osl 0 0 n 1, iN a, iN b, iN p] ⟨⟨[(0, .cells false D)], 1, none, []⟩, 1⟩) { e := .ret, ts := [iN g], s := ⟨⟨[(0, .cells false D1)], 1, none, [0]⟩, 1⟩ }]) := by kernel_rfl
theorem q8_l (n a b _ _ _ _ p _ m l k : Nat) (_ _ _ _ _ _ : Int) (t t1 t2 t3 : Bool) (D D1 D2 _ _ : List AV) (_ _ _ _ : AV) : runX Try.prog none_ 80 60 (.code q8 (T60 n a b k t1 t2 (iN (l)) (iN (p)) jq) ⟨⟨[(0, .cells false D)], 1, none, []⟩, 1⟩) [.call 60 20 4 (.tuple [(iN (m)), .bool t]) (fun s => s.set 0 (.cells false D1)), .val 60 22 2 (iN (m - a)), .val 60 22 5 (iN (b - m)), .val 60 23 1 (iN (l / 8)), .val 60 24 2 (.bool true), .val 60 25 2 (.bool t3), .call 60 26 4 uD (fun s => s.set 0 (.cells false D2)), .val 60 27 1 (iN (m + 1))] = some ({ e := .normal, ts := [.osl 0 0 n 1, iN (m + 1), iN b, iN k, jq, jq, jq, jq, .bool t3, .bool t, iN l, iN p, jq, jq, iN m, .bool t, iN (m - a), iN (b - m), iN (l / 8), jq, jq, jq, jq, jq, jq, jq, jq, jq, jq, jq, jq, jq, jq, jq, jq, jq, jq, jq, jq, jq, jq, jq, jq, jq, jq, jq, jq, jq, jq, jq, jq, jq, jq, jq, jq, jq, jq, jq, jq, jq, jq, jq, jq, jq, jq, jq, jq, jq, jq, jq, jq, jq, jq, jq, jq, jq, jq, jq, jq, jq, jq, jq, jq, jq, jq, jq, jq, jq, jq, jq, jq, jq, jq, jq, .tuple [iN m, .bool t], .osl 0 0 n 1, iN a, iN b, iN p, .tuple [iN m, .bool t], iN m, .bool t, .bool t, iN m, iN a, iN (m - a), iN b, iN m, iN (b - m), iN l, iN (l / 8), iN (m - a), iN (b - m), .bool true, iN (m - a), iN (l / 8), .bool t3, .osl 0 0 n 1, iN a, iN m, iN k, uD, iN m, iN (m + 1), jq, jq, jq, jq, jq, jq, jq, jq, jq, jq], s := ⟨⟨[(0, .cells false D2)], 1, none, [0, 0]⟩, 1⟩ }, [], [Qst.snd (Task.call 72 [.osl 0 0 n 1, iN a, iN b, iN p] ⟨⟨[(0, .cells false D)], 1, none, []⟩, 1⟩) { e := .ret, ts := [.tuple [iN m, .bool t]], s := ⟨⟨[(0, .cells false D1)], 1, none, [0]⟩, 1⟩ }, Qst.val (some (.int .i64 (IntKind.i64.wrap (Int.ofNat m - Int.ofNat a)))) (iN (m - a)), Qst.val (some (.int .i64 (IntKind.i64.wrap (Int.ofNat b - Int.ofNat m)))) (iN (b - m)), Qst.val (some (.int .i64 (IntKind.i64.wrap (Int.ofNat (l / 8))))) (iN (l / 8)), Qst.val (some (.bool (decide (Int.ofNat (m - a) < Int.ofNat (b - m))))) (.bool true), Qst.val (some (.bool (decide (Int.ofNat (m - a) ≥ Int.ofNat (l / 8))))) (.bool t3), Qst.snd (Task.call 60 [.osl 0 0 n 1, iN a, iN m, iN k] ⟨⟨[(0, .cells false D1)], 1, none, [0]⟩, 1⟩) { e := .ret, ts := [uD], s := ⟨⟨[(0, .cells false D2)], 1, none, [0, 0]⟩, 1⟩ }, Qst.val (some (.int .i64 (IntKind.i64.wrap (Int.ofNat (m + 1))))) (iN (m + 1))]) := by kernel_rfl
theorem q8_r (n a b _ _ _ _ p _ m l k : Nat) (_ _ _ _ _ _ : Int) (t t1 t2 t3 : Bool) (D D1 D2 _ _ : List AV) (_ _ _ _ : AV) : runX Try.prog none_ 80 60 (.code q8 (T60 n a b k t1 t2 (iN (l)) (iN (p)) jq) ⟨⟨[(0, .cells false D)], 1, none, []⟩, 1⟩) [.call 60 20 4 (.tuple [(iN (m)), .bool t]) (fun s => s.set 0 (.cells false D1)), .val 60 22 2 (iN (m - a)), .val 60 22 5 (iN (b - m)), .val 60 23 1 (iN (l / 8)), .val 60 24 2 (.bool false), .val 60 28 2 (.bool t3), .val 60 29 2 (iN (m + 1)), .call 60 29 5 uD (fun s => s.set 0 (.cells false D2))] = some ({ e := .normal, ts := [.osl 0 0 n 1, iN a, iN m, iN k, jq, jq, jq, jq, .bool t3, .bool t, iN l, iN p, jq, jq, iN m, .bool t, iN (m - a), iN (b - m), iN (l / 8), jq, jq, jq, jq, jq, jq, jq, jq, jq, jq, jq, jq, jq, jq, jq, jq, jq, jq, jq, jq, jq, jq, jq, jq, jq, jq, jq, jq, jq, jq, jq, jq, jq, jq, jq, jq, jq, jq, jq, jq, jq, jq, jq, jq, jq, jq, jq, jq, jq, jq, jq, jq, jq, jq, jq, jq, jq, jq, jq, jq, jq, jq, jq, jq, jq, jq, jq, jq, jq, jq, jq, jq, jq, jq, jq, .tuple [iN m, .bool t], .osl 0 0 n 1, iN a, iN b, iN p, .tuple [iN m, .bool t], iN m, .bool t, .bool t, iN m, iN a, iN (m - a), iN b, iN m, iN (b - m), iN l, iN (l / 8), iN (m - a), iN (b - m), .bool false, jq, jq, jq, jq, jq, jq, jq, jq, jq, jq, iN (b - m), iN (l / 8), .bool t3, .osl 0 0 n 1, iN m, iN (m + 1), iN b, iN k, uD, iN m], s := ⟨⟨[(0, .cells false D2)], 1, none, [0, 0]⟩, 1⟩ }, [], [Qst.snd (Task.call 72 [.osl 0 0 n 1, iN a, iN b, iN p] ⟨⟨[(0, .cells false D)], 1, none, []⟩, 1⟩) { e := .ret, ts := [.tuple [iN m, .bool t]], s := ⟨⟨[(0, .cells false D1)], 1, none, [0]⟩, 1⟩ }, Qst.val (some (.int .i64 (IntKind.i64.wrap (Int.ofNat m - Int.ofNat a)))) (iN (m - a)), Qst.val (some (.int .i64 (IntKind.i64.wrap (Int.ofNat b - Int.ofNat m)))) (iN (b - m)), Qst.val (some (.int .i64 (IntKind.i64.wrap (Int.ofNat (l / 8))))) (iN (l / 8)), Qst.val (some (.bool (decide (Int.ofNat (m - a) < Int.ofNat (b - m))))) (.bool false), Qst.val (some (.bool (decide (Int.ofNat (b - m) ≥ Int.ofNat (l / 8))))) (.bool t3), Qst.val (some (.int .i64 (IntKind.i64.wrap (Int.ofNat (m + 1))))) (iN (m + 1)), Qst.snd (Task.call 60 [.osl 0 0 n 1, iN (m + 1), iN b, iN k] ⟨⟨[(0, .cells false D1)], 1, none, [0]⟩, 1⟩) { e := .ret, ts := [uD], s := ⟨⟨[(0, .cells false D2)], 1, none, [0, 0]⟩, 1⟩ }]) := by kernel_rfl
theorem pd_call (n a b i _ h g _ _ _ _ k : Nat) (_ _ _ _ _ _ : Int) (_ t1 t2 _ : Bool) (D D1 _ _ _ : List AV) (_ _ _ _ : AV) : runX Try.prog none_ 80 60 (.call 60 [.osl 0 0 n 1, (iN (a)), (iN (b)), (iN (k))] ⟨⟨[(0, .cells false D)], 1, none, []⟩, 1⟩) [.loop 60 (fun _ s => ⟨.ret, T60 n g h i t1 t2 jq jq jq, s.set 0 (.cells false D1)⟩)] = some ({ e := .ret, ts := [uD], s := ⟨⟨[(0, .cells false D1)], 1, none, [0]⟩, 1⟩ }, [], [Qst.snd (Task.code (Code.loop (loopAt Try.prog 60 0)) [.osl 0 0 n 1, iN a, iN b, iN k, uD, uD, uD, uD, .bool true, .bool true, uD, uD, uD, uD, uD, uD, uD, uD, uD, uD, uD, uD, uD, uD, uD, uD, uD, uD, uD, uD, uD, uD, uD, uD, uD, uD, uD, uD, uD, uD, uD, uD, uD, uD, uD, uD, uD, uD, uD, uD, uD, uD, uD, uD, uD, uD, uD, uD, uD, uD, uD, uD, uD, uD, uD, uD, uD, uD, uD, uD, uD, uD, uD, uD, uD, uD, uD, uD, uD, uD, uD, uD, uD, uD, uD, uD, uD, uD, uD, uD, uD, uD, uD, uD, uD, uD, uD, uD, uD, uD, uD, uD, uD, uD, uD, uD, uD, uD, uD, uD, uD, uD, uD, uD, uD, uD, uD, uD, uD, uD, uD, uD, uD, uD, uD, uD, uD, uD, uD, uD, uD, uD, uD, uD] ⟨⟨[(0, .cells false D)], 1, none, []⟩, 1⟩) { e := .ret, ts := [.osl 0 0 n 1, iN g, iN h, iN i, jq, jq, jq, jq, .bool t1, .bool t2, jq, jq, jq, jq, jq, jq, jq, jq, jq, jq, jq, jq, jq, jq, jq, jq, jq, jq, jq, jq, jq, jq, jq, jq, jq, jq, jq, jq, jq, jq, jq, jq, jq, jq, jq, jq, jq, jq, jq, jq, jq, jq, jq, jq, jq, jq, jq, jq, jq, jq, jq, jq, jq, jq, jq, jq, jq, jq, jq, jq, jq, jq, jq, jq, jq, jq, jq, jq, jq, jq, jq, jq, jq, jq, jq, jq, jq, jq, jq, jq, jq, jq, jq, jq, jq, jq, jq, jq, jq, jq, jq, jq, jq, jq, jq, jq, jq, jq, jq, jq, jq, jq, jq, jq, jq, jq, jq, jq, jq, jq, jq, jq, jq, jq, jq, jq, jq, jq, jq, jq, jq, jq, jq, jq], s := ⟨⟨[(0, .cells false D1)], 1, none, [0]⟩, 1⟩ }]) := by kernel_rfl
theorem so_call (n _ _ _ _ _ _ _ _ _ _ k : Nat) (_ _ _ _ _ _ : Int) (_ _ _ _ : Bool) (D D1 _ _ _ : List AV) (_ _ _ _ : AV) : runX Try.prog none_ 80 54 (.call 54 [.osl 0 0 n 1] ⟨⟨[(0, .cells false D)], 1, none, []⟩, 1⟩) [.val 54 1 3 (.int .u64 (Int.ofNat (n))), .call 54 1 4 (iN (k)) id, .call 54 1 5 uD (fun s => s.set 0 (.cells false D1))] = some ({ e := .ret, ts := [uD], s := ⟨⟨[(0, .cells false D1)], 1, none, [0]⟩, 1⟩ }, [], [Qst.val (some (.int .u64 (Int.ofNat (n % ((2 : Int) ^ IntKind.u64.bits).natAbs)))) (iW (Int.ofNat n)), Qst.snd (Task.call 61 [iW (Int.ofNat n)] ⟨⟨[(0, .cells false D)], 1, none, []⟩, 1⟩) { e := .ret, ts := [iN k], s := ⟨⟨[(0, .cells false D)], 1, none, []⟩, 1⟩ }, Qst.snd (Task.call 60 [.osl 0 0 n 1, iN 0, iN n, iN k] ⟨⟨[(0, .cells false D)], 1, none, []⟩, 1⟩) { e := .ret, ts := [uD], s := ⟨⟨[(0, .cells false D1)], 1, none, [0]⟩, 1⟩ }]) := by kernel_rfl
end Go.Proofs.Ythooafgfpnedhaa.specsDo.pq
namespace Go.Proofs.Ythooafgfpnedhaa.specsDo.pq
open Go Go.Mini Go.Sort
/-! ### pdqsort -/
section
variable {P : Program} {L0 : List Nat} {c1 c2 : Code} {ts ts1 ts2 : List AV} {bs bs1 bs2 : List (Nat × AObj)} {len nx : Nat} {e : AExit}
theorem seqN (h : SoundL P L0 c1 ts bs len nx .normal ts1 bs1) (k : SoundL P L0 c2 ts1 bs1 len nx e ts2 bs2) : SoundL P L0 (.seq c1 c2) ts bs len nx e ts2 bs2 := by
  intro esc esc' W
  have h1 := seq_next (h esc none W) (k none none (L0 ++ W))
  rw [← List.append_assoc] at h1
  exact Sound.collapse h1 (fun b hb => by simpa using hb)
theorem seqS (h : SoundL P L0 c1 ts bs len nx e ts1 bs1) (he : e ≠ .normal) : SoundL P L0 (.seq c1 c2) ts bs len nx e ts1 bs1 :=
  fun esc esc' W => seq_stop (h esc esc' W) he
theorem blkX {i : Nat} (h : SoundL P L0 c1 ts bs len nx (.exit i) ts1 bs1) : SoundL P L0 (.block i c1) ts bs len nx .normal ts1 bs1 :=
  fun esc esc' W => block_exit (h esc esc' W) rfl
theorem blkP {i : Nat} (h : SoundL P L0 c1 ts bs len nx e ts1 bs1) (he : e ≠ .exit i) : SoundL P L0 (.block i c1) ts bs len nx e ts1 bs1 :=
  fun esc esc' W => block_past (h esc esc' W) he
end
def SP (c : Code) (ts : List AV) (d : Array Int) (e : AExit) (ts' : List AV) (d' : Array Int) : Prop := SoundL Try.prog [0] c ts (bsA (ur d)) 1 1 e ts' (bsA (ur d'))
theorem SPi {c : Code} {ts ts1 ts2 : List AV} {d d2 : Array Int} {e : AExit} {esc1 : Option Nat} {wr1 : List Nat} (h : Sound Try.prog (.code c ts ⟨⟨bsA (ur d), 1, none, []⟩, 1⟩) ⟨e, ts1, ⟨⟨bsA (ur d2), 1, esc1, wr1⟩, 1⟩⟩) (hts : seesT (fun b => b) (fun c => Nat.blt c 1) ts2 ts1) : SP c ts d e ts2 d2 := SLA h hts (ur_nm _ _)
section
variable {n : Nat} (hn : n ≤ 200) {a b k : Nat} {wb wp : Bool} {d : Array Int} (hd : n = d.size) (hb : b ≤ n) (hab : a ≤ b)
include hn hd hb hab
omit hd in
theorem p0 : SP q0 (T60 n a b k wb wp uu uu uu) d .normal (T60 n a b k wb wp (nA (b - a)) uu uu) d := by
  refine SPi (runX_sound mixed none_sound (q0_r n a b 0 0 0 0 0 0 0 0 k 0 0 0 0 0 0 true wb wp true (ur d) [] [] [] [] .nilFunc .nilFunc .nilFunc .nilFunc) ⟨wN _ (by first | rfl | (simp only [Int.ofNat_eq_natCast]; omega)) (by omega), trivial⟩) ?_
  unfold T60 nA
  repeat (first | exact rfl | refine ⟨_, _, rfl, ?_, ?_⟩ | exact .inr ⟨rfl, rfl⟩ | exact .inl ⟨rfl, rfl⟩ | exact see_same _)
theorem p1_s (h : b - a ≤ 12) : SP q1 (T60 n a b k wb wp (nA (b - a)) uu uu) d .ret (T60 n a b k wb wp uu uu uu) (insertionSort ltInt d a b) := by
  have c := is_all (n := n) (a := a) (b := b) (by omega) hd hb (by omega)
  refine SPi (runX_sound mixed none_sound (q1_s n a b 0 0 0 0 0 0 0 (b-a) k 0 0 0 0 0 0 true wb wp true (ur d) (ur (insertionSort ltInt d a b)) [] [] [] .nilFunc .nilFunc .nilFunc .nilFunc) ⟨bT (by simp; omega), c _ _ _, trivial⟩) ?_
  unfold T60
  repeat (first | exact rfl | refine ⟨_, _, rfl, ?_, ?_⟩ | exact .inr ⟨rfl, rfl⟩ | exact .inl ⟨rfl, rfl⟩ | exact see_same _)
omit hn hb hd hab in
theorem p1_n (h : ¬ b - a ≤ 12) : SP q1 (T60 n a b k wb wp (nA (b - a)) uu uu) d .normal (T60 n a b k wb wp (nA (b - a)) uu uu) d := by
  refine SPi (runX_sound mixed none_sound (q1_n n a b 0 0 0 0 0 0 0 (b-a) k 0 0 0 0 0 0 true wb wp true (ur d) [] [] [] [] .nilFunc .nilFunc .nilFunc .nilFunc) ⟨bF (by simp; omega), trivial⟩) ?_
  unfold T60 nA
  repeat (first | exact rfl | refine ⟨_, _, rfl, ?_, ?_⟩ | exact .inr ⟨rfl, rfl⟩ | exact .inl ⟨rfl, rfl⟩ | exact see_same _)
omit hab in
theorem p2_s (h12 : ¬ b - a ≤ 12) (h : k = 0) : SP q2 (T60 n a b k wb wp (nA (b - a)) uu uu) d .ret (T60 n a b k wb wp uu uu uu) (heapSort ltInt d a b) := by
  have c := hs_all (n := n) (a := a) (b := b) (by omega) hd hb (by omega)
  refine SPi (runX_sound mixed none_sound (q2_s n a b 0 0 0 0 0 0 0 (b-a) k 0 0 0 0 0 0 true wb wp true (ur d) (ur (heapSort ltInt d a b)) [] [] [] .nilFunc .nilFunc .nilFunc .nilFunc) ⟨eqB (by simp [h]), c _ _ _, trivial⟩) ?_
  unfold T60
  repeat (first | exact rfl | refine ⟨_, _, rfl, ?_, ?_⟩ | exact .inr ⟨rfl, rfl⟩ | exact .inl ⟨rfl, rfl⟩ | exact see_same _)
omit hn hd hb hab in
theorem p2_n (h : ¬ k = 0) : SP q2 (T60 n a b k wb wp (nA (b - a)) uu uu) d .normal (T60 n a b k wb wp (nA (b - a)) uu uu) d := by
  refine SPi (runX_sound mixed none_sound (q2_n n a b 0 0 0 0 0 0 0 (b-a) k 0 0 0 0 0 0 true wb wp true (ur d) [] [] [] [] .nilFunc .nilFunc .nilFunc .nilFunc) ⟨eqB (by simp [h]), trivial⟩) ?_
  unfold T60 nA
  repeat (first | exact rfl | refine ⟨_, _, rfl, ?_, ?_⟩ | exact .inr ⟨rfl, rfl⟩ | exact .inl ⟨rfl, rfl⟩ | exact see_same _)
omit hab in
theorem p3 (h12 : ¬ b - a ≤ 12) (hk : ¬ k = 0) (hk2 : k < 1000) : SP q3 (T60 n a b k wb wp (nA (b - a)) uu uu) d .normal (T60 n a b (rd ltInt d a b k wb wp).lim wb wp (nA (b - a)) uu uu) (rd ltInt d a b k wb wp).d1 := by
  cases wb with
  | false =>
    have c := bp_all hn hb (a := a) (by omega) hd
    refine SPi (runX_sound mixed none_sound (q3_f n a b 0 0 0 0 0 0 0 (b-a) k 0 0 0 0 0 0 true false wp true (ur d) (ur (breakPatterns d a b)) [] [] [] .nilFunc .nilFunc .nilFunc .nilFunc) ⟨c _ _ _, wN _ (by first | rfl | (simp only [Int.ofNat_eq_natCast]; omega)) (by omega), trivial⟩) ?_
    unfold T60 nA
    repeat (first | exact rfl | refine ⟨_, _, rfl, ?_, ?_⟩ | exact .inr ⟨rfl, rfl⟩ | exact .inl ⟨rfl, rfl⟩ | exact see_same _)
  | true =>
    refine SPi (runX_sound mixed none_sound (q3_t n a b 0 0 0 0 0 0 0 (b-a) k 0 0 0 0 0 0 true true wp true (ur d) [] [] [] [] .nilFunc .nilFunc .nilFunc .nilFunc) trivial) ?_
    unfold T60 nA
    repeat (first | exact rfl | refine ⟨_, _, rfl, ?_, ?_⟩ | exact .inr ⟨rfl, rfl⟩ | exact .inl ⟨rfl, rfl⟩ | exact see_same _)
omit hab in
theorem p4 (h12 : ¬ b - a ≤ 12) : SP q4 (T60 n a b k wb wp (nA (b - a)) uu uu) d .normal (T60 n a b k wb wp (nA (b - a)) (nA (choosePivot ltInt d a b).1) (nA (hN (choosePivot ltInt d a b).2))) d := by
  have c := cp_all (n := n) (by omega) hd (a := a) hb (by omega)
  refine SPi (runX_sound mixed none_sound (q4_r n a b 0 0 (hN (choosePivot ltInt d a b).2) 0 (choosePivot ltInt d a b).1 0 0 (b-a) k 0 0 0 0 0 0 true wb wp true (ur d) (ur d) [] [] [] .nilFunc .nilFunc .nilFunc .nilFunc) ⟨c _ _ _, trivial⟩) ?_
  unfold T60 nA
  repeat (first | exact rfl | refine ⟨_, _, rfl, ?_, ?_⟩ | exact .inr ⟨rfl, rfl⟩ | exact .inl ⟨rfl, rfl⟩ | exact see_same _)
omit hab in
theorem p5_d (_ : ¬ b - a ≤ 12) {p : Nat} (hp : a ≤ p) (hp2 : p < b) : SP q5 (T60 n a b k wb wp (nA (b - a)) (nA p) (nA 2)) d .normal (T60 n a b k wb wp (nA (b - a)) (nA (b - 1 - (p - a))) (nA 1)) (reverseRange d a b) := by
  have c := rv_all (n := n) (a := a) (by omega) hd hb (by omega)
  refine SPi (runX_sound mixed none_sound (q5_d n a b 0 0 2 0 p 0 0 (b-a) k 0 0 0 0 0 0 true wb wp true (ur d) (ur (reverseRange d a b)) [] [] [] .nilFunc .nilFunc .nilFunc .nilFunc) ⟨eqB (by simp), c _ _ _, wN _ (by simp only [Int.ofNat_eq_natCast]; omega) (by omega), wN _ (by simp only [Int.ofNat_eq_natCast]; omega) (by omega), wN _ (by simp only [Int.ofNat_eq_natCast]; omega) (by omega), trivial⟩) ?_
  unfold T60 nA
  repeat (first | exact rfl | refine ⟨_, _, rfl, ?_, ?_⟩ | exact .inr ⟨rfl, rfl⟩ | exact .inl ⟨rfl, rfl⟩ | exact see_same _)
omit hn hd hb hab in
theorem p5_n {p h : Nat} (hh : ¬ h = 2) : SP q5 (T60 n a b k wb wp (nA (b - a)) (nA p) (nA h)) d .normal (T60 n a b k wb wp (nA (b - a)) (nA p) (nA h)) d := by
  refine SPi (runX_sound mixed none_sound (q5_n n a b 0 0 h 0 p 0 0 (b-a) k 0 0 0 0 0 0 true wb wp true (ur d) [] [] [] [] .nilFunc .nilFunc .nilFunc .nilFunc) ⟨eqB (by simp [hh]), trivial⟩) ?_
  unfold T60 nA
  repeat (first | exact rfl | refine ⟨_, _, rfl, ?_, ?_⟩ | exact .inr ⟨rfl, rfl⟩ | exact .inl ⟨rfl, rfl⟩ | exact see_same _)
omit hn hd hb hab in
theorem p6_no {p h : Nat} (hc : (wb && wp && decide (h = 1)) = false) : SP q6 (T60 n a b k wb wp (nA (b - a)) (nA p) (nA h)) d .normal (T60 n a b k wb wp (nA (b - a)) (nA p) uu) d := by
  cases wb with
  | false =>
    refine SPi (runX_sound mixed none_sound (q6_f n a b 0 0 h 0 p 0 0 (b-a) k 0 0 0 0 0 0 true false wp true (ur d) [] [] [] [] .nilFunc .nilFunc .nilFunc .nilFunc) trivial) ?_
    unfold T60 nA
    repeat (first | exact rfl | refine ⟨_, _, rfl, ?_, ?_⟩ | exact .inr ⟨rfl, rfl⟩ | exact .inl ⟨rfl, rfl⟩ | exact see_same _)
  | true =>
    cases wp with
    | false =>
      refine SPi (runX_sound mixed none_sound (q6_tf n a b 0 0 h 0 p 0 0 (b-a) k 0 0 0 0 0 0 true true false true (ur d) [] [] [] [] .nilFunc .nilFunc .nilFunc .nilFunc) trivial) ?_
      unfold T60 nA
      repeat (first | exact rfl | refine ⟨_, _, rfl, ?_, ?_⟩ | exact .inr ⟨rfl, rfl⟩ | exact .inl ⟨rfl, rfl⟩ | exact see_same _)
    | true =>
      have hh : ¬ h = 1 := by simpa using hc
      refine SPi (runX_sound mixed none_sound (q6_no n a b 0 0 h 0 p 0 0 (b-a) k 0 0 0 0 0 0 true true true true (ur d) [] [] [] [] .nilFunc .nilFunc .nilFunc .nilFunc) ⟨eqB (by simp [hh]), trivial⟩) ?_
      unfold T60 nA
      repeat (first | exact rfl | refine ⟨_, _, rfl, ?_, ?_⟩ | exact .inr ⟨rfl, rfl⟩ | exact .inl ⟨rfl, rfl⟩ | exact see_same _)
omit hab in
theorem p6_yes {p : Nat} (h12 : ¬ b - a ≤ 12) : SP q6 (T60 n a b k true true (nA (b - a)) (nA p) (nA 1)) d (if (partialInsertionSort ltInt d a b).2 then .ret else .normal) (T60 n a b k true true (if (partialInsertionSort ltInt d a b).2 then uu else nA (b - a)) (if (partialInsertionSort ltInt d a b).2 then uu else nA p) uu) (partialInsertionSort ltInt d a b).1 := by
  have c := pi_all (n := n) (a := a) (by omega) hb (by omega) hd
  cases ht : (partialInsertionSort ltInt d a b).2 with
  | true =>
    rw [ht] at c
    refine SPi (runX_sound mixed none_sound (q6_ret n a b 0 0 1 0 p 0 0 (b-a) k 0 0 0 0 0 0 true true true true (ur d) (ur (partialInsertionSort ltInt d a b).1) [] [] [] .nilFunc .nilFunc .nilFunc .nilFunc) ⟨eqB (by simp), c _ _ _, trivial⟩) ?_
    unfold T60
    repeat (first | exact rfl | refine ⟨_, _, rfl, ?_, ?_⟩ | exact .inr ⟨rfl, rfl⟩ | exact .inl ⟨rfl, rfl⟩ | exact see_same _)
  | false =>
    rw [ht] at c
    refine SPi (runX_sound mixed none_sound (q6_go n a b 0 0 1 0 p 0 0 (b-a) k 0 0 0 0 0 0 true true true true (ur d) (ur (partialInsertionSort ltInt d a b).1) [] [] [] .nilFunc .nilFunc .nilFunc .nilFunc) ⟨eqB (by simp), c _ _ _, trivial⟩) ?_
    unfold T60 nA
    repeat (first | exact rfl | refine ⟨_, _, rfl, ?_, ?_⟩ | exact .inr ⟨rfl, rfl⟩ | exact .inl ⟨rfl, rfl⟩ | exact see_same _)
omit hab in
theorem p7_no {p : Nat} (hp : p < b) (hc : (decide (a > 0) && !ltInt d[a - 1]! d[p]!) = false) (h1 : a < b) : SP q7 (T60 n a b k wb wp (nA (b - a)) (nA p) uu) d .normal (T60 n a b k wb wp (nA (b - a)) (nA p) uu) d := by
  by_cases h0 : a > 0
  · have hl : ltInt d[a - 1]! d[p]! = true := by simpa [h0] using hc
    refine SPi (runX_sound mixed none_sound (q7_lt n a b 0 0 0 0 p 0 0 (b-a) k d[a-1]! d[p]! 0 0 0 0 true wb wp true (ur d) [] [] [] [] .nilFunc .nilFunc .nilFunc .nilFunc) ⟨bT (by simp; omega), wN _ (by simp only [Int.ofNat_eq_natCast]; omega) (by omega), idxP (by omega), ldP (by omega), idxP (by omega), ldP (by omega), lessB hl, trivial⟩) ?_
    unfold T60 nA
    repeat (first | exact rfl | refine ⟨_, _, rfl, ?_, ?_⟩ | exact .inr ⟨rfl, rfl⟩ | exact .inl ⟨rfl, rfl⟩ | exact see_same _)
  · refine SPi (runX_sound mixed none_sound (q7_0 n a b 0 0 0 0 p 0 0 (b-a) k 0 0 0 0 0 0 true wb wp true (ur d) [] [] [] [] .nilFunc .nilFunc .nilFunc .nilFunc) ⟨bF (by simp; omega), trivial⟩) ?_
    unfold T60 nA
    repeat (first | exact rfl | refine ⟨_, _, rfl, ?_, ?_⟩ | exact .inr ⟨rfl, rfl⟩ | exact .inl ⟨rfl, rfl⟩ | exact see_same _)
omit hab in
theorem p7_yes {p : Nat} (hp : p < b) (h1 : a < b) (hc : (decide (a > 0) && !ltInt d[a - 1]! d[p]!) = true) : SP q7 (T60 n a b k wb wp (nA (b - a)) (nA p) uu) d (.exit 1) (T60 n (partitionEqual ltInt d a b p).1 b k wb wp uu uu uu) (partitionEqual ltInt d a b p).2 := by
  obtain ⟨h0, hl⟩ : a > 0 ∧ ltInt d[a - 1]! d[p]! = false := by simpa using hc
  have c := eq_all (n := n) (by omega) hd hb h1 hp
  refine SPi (runX_sound mixed none_sound (q7_eq n a b 0 0 0 (partitionEqual ltInt d a b p).1 p 0 0 (b-a) k d[a-1]! d[p]! 0 0 0 0 true wb wp true (ur d) (ur (partitionEqual ltInt d a b p).2) [] [] [] .nilFunc .nilFunc .nilFunc .nilFunc) ⟨bT (by simp; omega), wN _ (by simp only [Int.ofNat_eq_natCast]; omega) (by omega), idxP (by omega), ldP (by omega), idxP (by omega), ldP (by omega), lessB hl, c _ _ _, trivial⟩) ?_
  unfold T60
  repeat (first | exact rfl | refine ⟨_, _, rfl, ?_, ?_⟩ | exact .inr ⟨rfl, rfl⟩ | exact .inl ⟨rfl, rfl⟩ | exact see_same _)
omit hab in
theorem p8_l {p m : Nat} {t : Bool} {d1 d2 : Array Int} (hp : p < b) (h1 : a < b) (e : partition ltInt d a b p = (m, t, d1)) (hm : a ≤ m) (hmb : m < b) (hlt : m - a < b - m) (c : CallP 60 [.osl 0 0 n 1, nA a, nA m, nA k] d1 d2 undefA) :
    SP q8 (T60 n a b k wb wp (nA (b - a)) (nA p) uu) d .normal (T60 n (m + 1) b k (decide (m - a ≥ (b - a) / 8)) t uu uu uu) d2 := by
  have c1 := pt_all (n := n) (by omega) hd hb h1 hp
  rw [e] at c1
  refine SPi (runX_sound mixed none_sound (q8_l n a b 0 0 0 0 p 0 m (b-a) k 0 0 0 0 0 0 t wb wp (decide (m - a ≥ (b - a) / 8)) (ur d) (ur d1) (ur d2) [] [] .nilFunc .nilFunc .nilFunc .nilFunc) ⟨c1 _ _ _, wN _ (by simp only [Int.ofNat_eq_natCast]; omega) (by omega), wN _ (by simp only [Int.ofNat_eq_natCast]; omega) (by omega), quoN rfl (by omega), bT (by simp; omega), bq (by simp; omega), c _ _ _, wN _ (by first | rfl | (simp only [Int.ofNat_eq_natCast]; omega)) (by omega), trivial⟩) ?_
  unfold T60
  repeat (first | exact rfl | refine ⟨_, _, rfl, ?_, ?_⟩ | exact .inr ⟨rfl, rfl⟩ | exact .inl ⟨rfl, rfl⟩ | exact see_same _)
omit hab in
theorem p8_r {p m : Nat} {t : Bool} {d1 d2 : Array Int} (hp : p < b) (h1 : a < b) (e : partition ltInt d a b p = (m, t, d1)) (hm : a ≤ m) (hmb : m < b) (hlt : ¬ m - a < b - m) (c : CallP 60 [.osl 0 0 n 1, nA (m + 1), nA b, nA k] d1 d2 undefA) :
    SP q8 (T60 n a b k wb wp (nA (b - a)) (nA p) uu) d .normal (T60 n a m k (decide (b - m ≥ (b - a) / 8)) t uu uu uu) d2 := by
  have c1 := pt_all (n := n) (by omega) hd hb h1 hp
  rw [e] at c1
  refine SPi (runX_sound mixed none_sound (q8_r n a b 0 0 0 0 p 0 m (b-a) k 0 0 0 0 0 0 t wb wp (decide (b - m ≥ (b - a) / 8)) (ur d) (ur d1) (ur d2) [] [] .nilFunc .nilFunc .nilFunc .nilFunc) ⟨c1 _ _ _, wN _ (by simp only [Int.ofNat_eq_natCast]; omega) (by omega), wN _ (by simp only [Int.ofNat_eq_natCast]; omega) (by omega), quoN rfl (by omega), bF (by simp; omega), bq (by simp; omega), wN _ (by first | rfl | (simp only [Int.ofNat_eq_natCast]; omega)) (by omega), c _ _ _, trivial⟩) ?_
  unfold T60
  repeat (first | exact rfl | refine ⟨_, _, rfl, ?_, ?_⟩ | exact .inr ⟨rfl, rfl⟩ | exact .inl ⟨rfl, rfl⟩ | exact see_same _)
end
end Go.Proofs.Ythooafgfpnedhaa.specsDo.pq
namespace Go.Proofs.Ythooafgfpnedhaa.specsDo.pq
open Go Go.Mini Go.Sort
/-! ### pdqsort: the loop, the recursion; slices.Sort -/
def Pd (n a b k : Nat) (wb wp : Bool) (d : Array Int) : Prop := ∃ g h i t1 t2, SP (.loop (loopAt Try.prog 60 0)) (T60 n a b k wb wp uu uu uu) d .ret (T60 n g h i t1 t2 uu uu uu) (pdq ltInt d a b k wb wp)
theorem pd_of {n a b k : Nat} {d : Array Int} (h : Pd n a b k true true d) : CallP 60 [.osl 0 0 n 1, nA a, nA b, nA k] d (pdq ltInt d a b k true true) undefA := by
  obtain ⟨g, h, i, t1, t2, hl⟩ := h
  intro esc esc' W
  refine CSA (runX_sound mixed none_sound (pd_call n a b i 0 h g 0 0 0 0 k 0 0 0 0 0 0 true t1 t2 true (ur d) (ur (pdq ltInt d a b k true true)) [] [] [] .nilFunc .nilFunc .nilFunc .nilFunc) ⟨Sound.enter (hl none none []) ?_, trivial⟩) rfl (ur_nm _ _) esc esc' W
  unfold T60
  repeat (first | exact rfl | refine ⟨_, _, rfl, ?_, ?_⟩ | exact .inr ⟨rfl, rfl⟩ | exact .inl ⟨rfl, rfl⟩ | exact see_same _)
theorem Pd.stop {n a b k : Nat} {wb wp : Bool} {d : Array Int} {t1 t2 : Bool} {g h i : Nat} (hs : SP (loopAt Try.prog 60 0) (T60 n a b k wb wp uu uu uu) d .ret (T60 n g h i t1 t2 uu uu uu) (pdq ltInt d a b k wb wp)) : Pd n a b k wb wp d :=
  ⟨g, h, i, t1, t2, SoundL.stop hs (by simp)⟩
theorem Pd.next {n a b k a1 b1 k1 : Nat} {wb wp wb1 wp1 : Bool} {d d1 : Array Int} (hs : SP (loopAt Try.prog 60 0) (T60 n a b k wb wp uu uu uu) d .normal (T60 n a1 b1 k1 wb1 wp1 uu uu uu) d1) (e : pdq ltInt d a b k wb wp = pdq ltInt d1 a1 b1 k1 wb1 wp1) (h : Pd n a1 b1 k1 wb1 wp1 d1) : Pd n a b k wb wp d := by
  obtain ⟨g, h, i, t1, t2, hl⟩ := h
  refine ⟨g, h, i, t1, t2, ?_⟩
  rw [e]
  exact SoundL.next hs hl
theorem pd_all {n : Nat} (hn : n ≤ 200) : ∀ (m a b k : Nat) (wb wp : Bool) (d : Array Int), b - a ≤ m → a ≤ b → b ≤ n → n = d.size → k < 1000 → Below ltInt a b d → Pd n a b k wb wp d := by
  intro m
  induction m with
  | zero =>
    intro a b k wb wp d hm hab hb hd hk hB
    have h12 : b - a ≤ 12 := by omega
    refine Pd.stop (t1 := wb) (t2 := wp) (g := a) (h := b) (i := k) ?_
    rw [pdq_small h12, pd_eq]
    exact blkP (seqN (p0 hn hb hab) (seqS (p1_s hn hd hb hab h12) (by simp))) (by simp)
  | succ m ih =>
    intro a b k wb wp d hm hab hb hd hk hB
    by_cases h12 : b - a ≤ 12
    · refine Pd.stop (t1 := wb) (t2 := wp) (g := a) (h := b) (i := k) ?_
      rw [pdq_small h12, pd_eq]
      exact blkP (seqN (p0 hn hb hab) (seqS (p1_s hn hd hb hab h12) (by simp))) (by simp)
    by_cases h0 : k = 0
    · refine Pd.stop (t1 := wb) (t2 := wp) (g := a) (h := b) (i := k) ?_
      rw [pdq_heap h12 h0, pd_eq]
      exact blkP (seqN (p0 hn hb hab) (seqN (p1_n h12) (seqS (p2_s hn hd hb h12 h0) (by simp)))) (by simp)
    have hlt : a < b := by omega
    have hbs : b ≤ d.size := by omega
    obtain ⟨f1, f2, f3, f4, f5, f6, f7, f8⟩ := rd_facts (limit := k) (wb := wb) (wp := wp) swo_ltInt partialInsertionSort_holds reverseRange_holds hlt hbs hB
    have hlim : (rd ltInt d a b k wb wp).lim ≤ k := rd_lim_le
    have g3 := p3 hn hd hb h12 h0 hk (wb := wb) (wp := wp)
    have hd1 : n = (rd ltInt d a b k wb wp).d1.size := by rw [f1]; exact hd
    have hd2 : n = (rd ltInt d a b k wb wp).d2.size := by rw [f4]; exact hd
    have hd3 : n = (rd ltInt d a b k wb wp).pi.1.size := by rw [f7]; exact hd
    have g4 := p4 hn hd1 hb h12 (k := (rd ltInt d a b k wb wp).lim) (wb := wb) (wp := wp)
    rw [← rd_c] at g4
    have g5 : SP q5 (T60 n a b (rd ltInt d a b k wb wp).lim wb wp (nA (b - a)) (nA (rd ltInt d a b k wb wp).c.1) (nA (hN (rd ltInt d a b k wb wp).c.2))) (rd ltInt d a b k wb wp).d1 .normal
        (T60 n a b (rd ltInt d a b k wb wp).lim wb wp (nA (b - a)) (nA (rd ltInt d a b k wb wp).pivot) (nA (hN (rd ltInt d a b k wb wp).hint))) (rd ltInt d a b k wb wp).d2 := by
      by_cases hdec : (rd ltInt d a b k wb wp).c.2 = .decreasing
      · obtain ⟨e1, e2, e3⟩ := rd_dec hdec
        rw [e1, e2, e3, hdec]
        exact p5_d hn hd1 hb h12 f3.1 f3.2
      · obtain ⟨e1, e2, e3⟩ := rd_not hdec
        rw [e1, e2, e3]
        refine p5_n ?_
        cases hh : (rd ltInt d a b k wb wp).c.2 with
        | unknown => decide
        | increasing => decide
        | decreasing => exact absurd hh hdec
    have head {e : AExit} {ts : List AV} {d' : Array Int} (hr : SP (.seq q6 (.seq q7 q8)) (T60 n a b (rd ltInt d a b k wb wp).lim wb wp (nA (b - a)) (nA (rd ltInt d a b k wb wp).pivot) (nA (hN (rd ltInt d a b k wb wp).hint))) (rd ltInt d a b k wb wp).d2 e ts d') :
        SP (.seq q0 (.seq q1 (.seq q2 (.seq q3 (.seq q4 (.seq q5 (.seq q6 (.seq q7 q8)))))))) (T60 n a b k wb wp uu uu uu) d e ts d' :=
      seqN (p0 hn hb hab) (seqN (p1_n h12) (seqN (p2_n h0) (seqN g3 (seqN g4 (seqN g5 hr)))))
    have hint1 : ∀ h : Hint, decide (hN h = 1) = decide (h = .increasing) := fun h => by cases h <;> rfl
    -- the partial insertion sort
    by_cases hpi : (rd ltInt d a b k wb wp).pi.2 = true
    · have hc : (wb && wp && decide ((rd ltInt d a b k wb wp).hint = .increasing)) = true := by
        cases hcc : (wb && wp && decide ((rd ltInt d a b k wb wp).hint = .increasing)) with
        | true => rfl
        | false => rw [rd_pi_no hcc] at hpi; cases hpi
      have e1 := rd_pi_yes hc
      have hwb : wb = true ∧ wp = true ∧ (rd ltInt d a b k wb wp).hint = .increasing := by simpa [and_assoc] using hc
      have g6 := p6_yes hn hd2 hb (a := a) (k := (rd ltInt d a b k wb wp).lim) (p := (rd ltInt d a b k wb wp).pivot) h12
      rw [e1] at hpi
      rw [← e1] at g6
      have hpi2 : (rd ltInt d a b k wb wp).pi.2 = true := by rw [e1]; exact hpi
      rw [hpi2, if_pos rfl, if_pos rfl, if_pos rfl] at g6
      obtain ⟨w1, w2, w3⟩ := hwb
      refine Pd.stop (t1 := true) (t2 := true) (g := a) (h := b) (i := (rd ltInt d a b k wb wp).lim) ?_
      rw [pdq_done h12 h0 hpi2, pd_eq]
      refine blkP (head ?_) (by simp)
      rw [w3]
      subst w1 w2
      exact seqS g6 (by simp)
    have hpi : (rd ltInt d a b k wb wp).pi.2 = false := by simpa using hpi
    have g6 : SP q6 (T60 n a b (rd ltInt d a b k wb wp).lim wb wp (nA (b - a)) (nA (rd ltInt d a b k wb wp).pivot) (nA (hN (rd ltInt d a b k wb wp).hint))) (rd ltInt d a b k wb wp).d2 .normal
        (T60 n a b (rd ltInt d a b k wb wp).lim wb wp (nA (b - a)) (nA (rd ltInt d a b k wb wp).pivot) uu) (rd ltInt d a b k wb wp).pi.1 := by
      cases hc : (wb && wp && decide ((rd ltInt d a b k wb wp).hint = .increasing)) with
      | false =>
        rw [rd_pi_no hc]
        exact p6_no (by rw [hint1]; exact hc)
      | true =>
        have e1 := rd_pi_yes hc
        have g6 := p6_yes hn hd2 hb (a := a) (k := (rd ltInt d a b k wb wp).lim) (p := (rd ltInt d a b k wb wp).pivot) h12
        rw [← e1, hpi, if_neg (by simp), if_neg (by simp), if_neg (by simp)] at g6
        obtain ⟨w1, w2, w3⟩ : wb = true ∧ wp = true ∧ (rd ltInt d a b k wb wp).hint = .increasing := by simpa [and_assoc] using hc
        rw [w3]
        subst w1 w2
        exact g6
    cases hc : (decide (a > 0) && !ltInt (rd ltInt d a b k wb wp).pi.1[a - 1]! (rd ltInt d a b k wb wp).pi.1[(rd ltInt d a b k wb wp).pivot]!) with
    | true =>
      obtain ⟨c0, cl⟩ : a > 0 ∧ ltInt (rd ltInt d a b k wb wp).pi.1[a - 1]! (rd ltInt d a b k wb wp).pi.1[(rd ltInt d a b k wb wp).pivot]! = false := by simpa using hc
      obtain ⟨r1, r2, r3, r4, _⟩ := round_eq swo_ltInt (partitionEqual_holds ltInt) c0 f6.1 f6.2 (by omega) f8 cl (mid := (partitionEqual ltInt (rd ltInt d a b k wb wp).pi.1 a b (rd ltInt d a b k wb wp).pivot).1) (d4 := (partitionEqual ltInt (rd ltInt d a b k wb wp).pi.1 a b (rd ltInt d a b k wb wp).pivot).2) rfl
      have g7 := p7_yes hn hd3 hb (k := (rd ltInt d a b k wb wp).lim) (wb := wb) (wp := wp) f6.2 hlt hc
      refine Pd.next (a1 := (partitionEqual ltInt (rd ltInt d a b k wb wp).pi.1 a b (rd ltInt d a b k wb wp).pivot).1) (b1 := b) (k1 := (rd ltInt d a b k wb wp).lim) (wb1 := wb) (wp1 := wp) (d1 := (partitionEqual ltInt (rd ltInt d a b k wb wp).pi.1 a b (rd ltInt d a b k wb wp).pivot).2) ?_ (pdq_eq h12 h0 hpi hc ⟨r1, r2⟩) (ih _ _ _ _ _ _ (by omega) r2 hb (by rw [r3]; exact hd3) (by omega) r4)
      rw [pd_eq]
      exact blkX (head (seqN g6 (seqS g7 (by simp))))
    | false =>
      have g7 := p7_no hn hd3 hb (k := (rd ltInt d a b k wb wp).lim) (wb := wb) (wp := wp) f6.2 hc hlt
      obtain ⟨mid, t, d4, hx⟩ : ∃ mid t d4, partition ltInt (rd ltInt d a b k wb wp).pi.1 a b (rd ltInt d a b k wb wp).pivot = (mid, t, d4) := ⟨_, _, _, rfl⟩
      obtain ⟨r1, r2, r3, r4, r5, r6, r7⟩ := round_part swo_ltInt (partition_holds ltInt) f6.1 f6.2 (by omega) f8 hx
      have h3 : a ≤ (partition ltInt (rd ltInt d a b k wb wp).pi.1 a b (rd ltInt d a b k wb wp).pivot).1 ∧ (partition ltInt (rd ltInt d a b k wb wp).pi.1 a b (rd ltInt d a b k wb wp).pivot).1 < b := by rw [hx]; exact ⟨r1, r2⟩
      by_cases hl : mid - a < b - mid
      · have h4 : (partition ltInt (rd ltInt d a b k wb wp).pi.1 a b (rd ltInt d a b k wb wp).pivot).1 - a < b - (partition ltInt (rd ltInt d a b k wb wp).pi.1 a b (rd ltInt d a b k wb wp).pivot).1 := by rw [hx]; exact hl
        have e := pdq_left h12 h0 hpi hc h3 h4
        rw [hx] at e
        have kc := pd_of (ih a mid (rd ltInt d a b k wb wp).lim true true d4 (by omega) r1 (by omega) (by rw [r3]; exact hd3) (by omega) r4)
        obtain ⟨l1, l2⟩ := pdq_sorts ltInt swo_ltInt d4 a mid (rd ltInt d a b k wb wp).lim true true r1 (by omega) r4
        obtain ⟨r8, _⟩ := r6 _ l1 l2
        have g8 := p8_l hn hd3 hb (k := (rd ltInt d a b k wb wp).lim) (wb := wb) (wp := wp) f6.2 hlt hx r1 r2 hl kc
        refine Pd.next ?_ e (ih _ _ _ _ _ _ (by omega) (by omega) hb (by rw [l1.1, r3]; exact hd3) (by omega) r8)
        rw [pd_eq]
        exact blkP (head (seqN g6 (seqN g7 g8))) (by simp)
      · have h4 : ¬ (partition ltInt (rd ltInt d a b k wb wp).pi.1 a b (rd ltInt d a b k wb wp).pivot).1 - a < b - (partition ltInt (rd ltInt d a b k wb wp).pi.1 a b (rd ltInt d a b k wb wp).pivot).1 := by rw [hx]; exact hl
        have e := pdq_right h12 h0 hpi hc h3 h4
        rw [hx] at e
        have kc := pd_of (ih (mid + 1) b (rd ltInt d a b k wb wp).lim true true d4 (by omega) (by omega) hb (by rw [r3]; exact hd3) (by omega) r5)
        obtain ⟨l1, l2⟩ := pdq_sorts ltInt swo_ltInt d4 (mid + 1) b (rd ltInt d a b k wb wp).lim true true (by omega) (by omega) r5
        obtain ⟨r8, _⟩ := r7 _ l1 l2
        have g8 := p8_r hn hd3 hb (k := (rd ltInt d a b k wb wp).lim) (wb := wb) (wp := wp) f6.2 hlt hx r1 r2 hl kc
        refine Pd.next ?_ e (ih _ _ _ _ _ _ (by omega) (by omega) (by omega) (by rw [l1.1, r3]; exact hd3) (by omega) r8)
        rw [pd_eq]
        exact blkP (head (seqN g6 (seqN g7 g8))) (by simp)
theorem so_all {n : Nat} (hn : n ≤ 200) {d : Array Int} (hd : n = d.size) : CallP 54 [.osl 0 0 n 1] d (sort ltInt d) undefA := by
  intro esc esc' W
  have hk : bitsLen n ≤ 8 := (bitsLen_le_iff n 8).2 (by omega)
  have k := pd_of (pd_all hn n 0 n (bitsLen n) true true d (by omega) (by omega) (Nat.le_refl _) hd (by omega) (.inl rfl))
  have e : pdq ltInt d 0 n (bitsLen n) true true = sort ltInt d := by rw [hd]; rfl
  rw [e] at k
  exact CSA (runX_sound mixed none_sound (so_call n 0 0 0 0 0 0 0 0 0 0 (bitsLen n) 0 0 0 0 0 0 true true true true (ur d) (ur (sort ltInt d)) [] [] [] .nilFunc .nilFunc .nilFunc .nilFunc) ⟨uq (Nat.mod_eq_of_lt (by omega)), lenC hn _, k _ _ _, trivial⟩) rfl (ur_nm _ _) esc esc' W
end Go.Proofs.Ythooafgfpnedhaa.specsDo.pq
namespace Go.Proofs.Ythooafgfpnedhaa.specsDo
open Go Go.Mini Go.Proofs Go.RowKit Go.Maps Go.Sort Go.Shelf
/-! ### slices.Sorted(maps.Keys(m)), told to the interpreter -/
/-- A row of numbers in a block that a call made: it is one of ours. -/
theorem rel_row {B : Base} {ρ : Mini.Ren} {s : AS} {w W : World} (R : Rel Try.prog B ρ s w) (hb : Below w.heap.size w W) {v : Value} {ss : List Int} (hrow : W.ownsRow w.heap.size 22 1 v ss.length (ss.map encU)) (hne : ss ≠ []) :
    ∃ ρ1, VRel ρ1 (.osl s.nx 0 ss.length 1) v ∧ Post Try.prog B ρ s w ρ1 (s.push (.cells false (ss.map uI))) W := by
  rcases hrow.2 with ⟨_, hz⟩ | ⟨gb, cap, cur, rfl, hbase, hgb, r1, r2, r3, r4⟩
  · exact absurd (List.eq_nil_of_length_eq_zero hz) hne
  · have hlt : gb < W.heap.size := (Array.getElem?_eq_some_iff.1 hgb).1
    have hf : ρ s.nx = none := R.fresh _ (Nat.le_refl _)
    have hvs : ∀ (l : List Int) (σ : Mini.Ren), VRels σ (l.map uI) (l.map encU) := by
      intro l σ
      induction l with
      | nil => exact vrels_nil.2 rfl
      | cons x l ih => exact vrels_cons.2 ⟨_, _, rfl, by rw [uI, vrel_int], ih⟩
    have hR := R.pushAt (w' := W) (o := .cells false (ss.map uI)) (L := ⟨gb, 0, cur.size⟩) rfl (fun hK => by have := R.K_lt gb hK; omega) hlt
      (fun b o' L' h1 h2 h3 e => by have := R.lt b L' h3; have e : L'.c = gb := e; omega)
      ⟨hb.os, hb.tape, hb.output, hb.size, fun k hk => hb.block k (R.K_lt k hk)⟩
      (fun k _ hk => hb.block k hk)
      ⟨_, hgb, cur, 22, (0, 0), rfl, rfl, fun _ => rfl, ss.map encU, hvs ss ρ, fun i x hi => by
        have h4 : cur.toList.take ss.length = ss.map encU := by simpa using r4
        have hl : i < ss.length := by have := (List.getElem?_eq_some_iff.1 hi).1; simpa using this
        rw [Nat.zero_add, ← Array.getElem?_toList]
        rw [← h4, List.getElem?_take] at hi
        rw [if_pos hl] at hi
        exact hi⟩
    refine ⟨_, ?_, ⟨hR, fun b hb' => by unfold upd; rw [if_neg (by omega)], fun b hb' hn => by rw [get_push, if_neg (by omega)], Shape.push s _, hb.size⟩⟩
    rw [vrel_osl]
    refine ⟨⟨gb, 0, cur.size⟩, 0, cap, by unfold upd; rw [if_pos rfl], rfl, r1, by show 0 + cap * 1 ≤ cur.size; omega, fun _ => rfl⟩
/-- What sorts a row of numbers. -/
def SortsU (n : Nat) : Prop := ∀ (L : List Int), L.length = n → L.Nodup → (∀ x ∈ L, (Lit.int .u64 x).wf = true) → ∀ (s : AS) (b : Nat), s.get b = some (.cells false (L.map uI)) →
  Sound Try.prog (.call 54 [.osl b 0 n 1] s) ⟨.ret, [undefA], s.set b (.cells false ((L.mergeSort fun x y => decide (x ≤ y)).map uI))⟩
def SortsN : Prop := ∀ s : AS, Sound Try.prog (.call 54 [.nilSlice] s) ⟨.ret, [undefA], s⟩
def keysOfM (M : List (Int × Int)) : List Int := (M.map (·.1)).mergeSort fun x y => decide (x ≤ y)
theorem sort_perm {l l' : List Int} (h : l.Perm l') : (l.mergeSort fun x y => decide (x ≤ y)) = l'.mergeSort fun x y => decide (x ≤ y) := by
  have tr : ∀ a b c : Int, decide (a ≤ b) = true → decide (b ≤ c) = true → decide (a ≤ c) = true := fun a b c h1 h2 => by simp only [decide_eq_true_eq] at *; omega
  have to : ∀ a b : Int, (decide (a ≤ b) || decide (b ≤ a)) = true := fun a b => by simp only [Bool.or_eq_true, decide_eq_true_eq]; omega
  refine List.Perm.eq_of_pairwise (le := fun a b => decide (a ≤ b) = true) (fun a b _ _ h1 h2 => ?_) (List.pairwise_mergeSort tr to l) (List.pairwise_mergeSort tr to l') (((List.mergeSort_perm l _).trans h).trans (List.mergeSort_perm l' _).symm)
  simp only [decide_eq_true_eq] at h1 h2
  omega
theorem keys_perm {H : Type} {D0 : DataW H} {M : List (Int × Int)} {ss : List Int} (h : KeysU D0 ss) (hk : (M.map (·.1)).Nodup) (hx : ∀ x : Int, has D0 (.int .u64 x) = true ↔ x ∈ M.map (·.1)) : ss.Perm (M.map (·.1)) :=
  (List.perm_ext_iff_of_nodup h.1 hk).2 fun x => by rw [h.2 x, hx x]
theorem set_push (s : AS) (a b o : AObj) : (s.push a).set s.nx o = (s.push b).set s.nx o := by
  simp [AS.push, AS.set, setB]
def oE : AObj := .cells false []
set_option maxHeartbeats 2000000 in
theorem sorted_some {s : AS} {bx bm : Nat} {ro : Bool} {M : List (Int × Int)} {bn : List Nat} {ck : Nat} (hk : MapOk M bn ck) (hx : s.get bx = some (.cells ro [.map bm])) (hm : s.get bm = some (.map (mapE .u64 .u64 M) bn ck)) (hne : M ≠ []) (hS : SortsU M.length) :
    Sound Try.prog (.call 28 [.func (.func 55) [] [.ptr bx 0]] s) ⟨.ret, [.osl s.nx 0 M.length 1], (s.push oE).set s.nx (.cells false ((keysOfM M).map uI))⟩ := by
  intro B ρ cargs w R hargs
  obtain ⟨fv, vs, rfl, h1, h2⟩ := vrels_cons.1 hargs
  have h2 := vrels_nil.1 h2
  subst h2
  obtain ⟨vs, ws, rfl, h3, h4⟩ := vrel_func.1 h1
  have h3 := vrels_nil.1 h3
  subst h3
  obtain ⟨u, us, rfl, h5, h6⟩ := vrels_cons.1 h4
  have h6 := vrels_nil.1 h6
  subst h6
  obtain ⟨L, hL, rfl⟩ := vrel_ptr.1 h5
  obtain ⟨c, hc, arr, e, fz, rfl, hsz, _, vs, hvs, hat⟩ := R.obj bx _ L hx hL
  obtain ⟨mv, vs', rfl, h7, _⟩ := vrels_cons.1 hvs
  obtain ⟨Lm, hLm, rfl⟩ := vrel_map.1 h7
  have hcell : w.cell? ⟨L.c, L.d, none⟩ = some (.map (some Lm.c)) := by
    have := hat 0 (.map (some Lm.c)) rfl
    rw [Nat.add_zero] at this
    simp [World.cell?, hc, this]
  obtain ⟨c2, hc2, ents, rfl, he, hbn⟩ := R.obj bm _ Lm hm hLm
  obtain ⟨D0, hown, hsize, hhas⟩ := owns_of hk hc2 he hbn
  have hmax : Maps.size D0 ≤ maxLen := by have := hk.len; rw [hsize]; unfold maxLen; omega
  have hbytes : Maps.size D0 * 8 ≤ 140737488355328 := by have := hk.len; rw [hsize]; omega
  obtain ⟨F, hF⟩ : ∃ F : Fence, F = Fence.wide := ⟨_, rfl⟩
  obtain ⟨n, hn⟩ : ∃ n : Nat, 6 ≤ n := ⟨6, Nat.le_refl _⟩
  have h28 : F.fn 28 := by rw [hF]; trivial
  have h53 : F.fn 53 := by rw [hF]; trivial
  have h54 : F.fn 54 := by rw [hF]; trivial
  have h55 : F.fn 55 := by rw [hF]; trivial
  have h59 : F.fn 59 := by rw [hF]; trivial
  have hro : F.round = none := by rw [hF]; rfl
  have h1 : 1 ≤ n := by omega
  have hseq : SeqGives F (n - 1 - 1 - 1) Try.prog 55 #[.pointer (some ⟨L.c, L.d, none⟩)] encU (fun ss => KeysU D0 ss) (Maps.size D0) w :=
    keys_gives F _ h55 hro (by omega) L.c L.d Lm.c M.length D0 w (R.lt bx L hL) hcell hown
  refine (callsIn_wide (n := n)).1 ?_
  rw [← hF]
  have HF : Hid (F = Fence.wide) := hF
  clear hF
  refine callsIn_of_wp Try.func28 rfl h28 ?_ hro
  simp only [Try.ntmps28, List.size_toArray, List.length_cons, List.length_nil, Nat.reduceAdd, Nat.reduceSub, Array.replicate_succ, Array.replicate_zero, List.push_toArray, List.append_toArray, List.nil_append, List.cons_append]
  gi_wp2_with (gi_at_call 53; refine (collect_in F (n - 1) h53 h59 hro (by omega) 55 _ h55 (enters_of Try.func55 (by kernel_rfl) rfl) _ _ hmax hbytes _ hseq.bounded).mono ?_; rintro e W ⟨v, ss, rfl, ⟨hS', hlen⟩, hrow, hnil, hb⟩)
  have hperm := keys_perm hS' hk.keys hhas
  have hsl : ss.length = M.length := by have := hperm.length_eq; simpa using this
  have hss : ss ≠ [] := fun e0 => by
    rw [e0] at hsl
    exact hne (List.eq_nil_of_length_eq_zero hsl.symm)
  obtain ⟨ρ1, hv1, hp1⟩ := rel_row R hb hrow hss
  have hmk : keysOfM M = ss.mergeSort fun x y => decide (x ≤ y) := (sort_perm hperm).symm
  have hwf : ∀ x ∈ ss, (Lit.int .u64 x).wf = true := fun x hx => by
    obtain ⟨z, hz, rfl⟩ := List.mem_map.1 (hperm.mem_iff.1 hx)
    exact (hk.wf z hz).1
  rw [hsl] at hv1
  have cS := hS ss hsl hS'.1 hwf (s.push (.cells false (ss.map uI))) s.nx (by simp [AS.push, AS.get, getB]) B ρ1 [v] W hp1.rel (vrels_cons.2 ⟨_, _, rfl, hv1, vrels_nil.2 rfl⟩)
  have cS := (callsIn_wide (n := n - 1)).2 cS
  have hF : F = Fence.wide := HF
  rw [← hF] at cS
  clear hF
  gi_wp2_with (gi_at_call 54; refine cS.mono ?_; rintro e w' ⟨v', u, ρ2, h1', rfl, h3', hp2⟩)
  go_ret
  refine ⟨_, v, ρ2, rfl, rfl, hv1.mono (hp2.mono hp1.rel), ?_⟩
  have := hp1.trans hp2
  rw [← hmk, set_push s _ oE] at this
  exact this
end Go.Proofs.Ythooafgfpnedhaa.specsDo
namespace Go.Proofs.Ythooafgfpnedhaa.specsDo.pq
open Go Go.Mini Go.Sort
/-! ### slices.Sort of a row of numbers, wherever it lies -/
theorem ur_ren (π : Nat → Nat) (d : Array Int) : rens π (ur d) = ur d := by
  unfold ur
  induction d.toList with
  | nil => rfl
  | cons x l ih => show AV.int .u64 x :: rens π _ = _; rw [ih]; rfl
theorem sortsU {n : Nat} (hn : n ≤ 200) : SortsU n := by
  intro L hl _ _ s b hs
  have hd : n = L.toArray.size := by simp [hl]
  have e1 : ur L.toArray = L.map uI := by simp [ur, uI]
  have e2 : ur (sort ltInt L.toArray) = (L.mergeSort fun x y => decide (x ≤ y)).map uI := by
    unfold ur
    rw [sortInt L]
    rfl
  have h0 := so_all hn hd none none []
  have h := Sound.put (bs0 := [(0, .cells false (ur L.toArray))]) h0 noG (fun _ => b) [] s ⟨⟨Nat.zero_lt_one, rfl, ur_nm _ _, rfl, by rw [e1]; show s.get b = some (.cells false (rens _ (L.map uI))); rw [← e1, ur_ren, e1]; exact hs, .inl rfl, ur_nm _ _⟩, trivial⟩ (fun a ha c hc _ => by simp at ha hc; omega) (by simp) List.nodup_nil (fun b hb => by cases hb) rfl rfl
  have e3 : (objAt ⟨⟨bsA (ur (sort ltInt L.toArray)), 1, none, [0] ++ []⟩, 1⟩ 0).ren (pR 1 [] (fun _ => b) s.nx) = .cells false ((L.mergeSort fun x y => decide (x ≤ y)).map uI) := by
    show AObj.cells false (rens _ (ur (sort ltInt L.toArray))) = _
    rw [ur_ren, e2]
  rw [← e3]
  exact h
end Go.Proofs.Ythooafgfpnedhaa.specsDo.pq
namespace Go.Proofs.Ythooafgfpnedhaa.specsDo
open Go Go.Mini Go.Proofs
/-! ### slices.Sort of a row of none, or of one -/
theorem st_nil : runX Try.prog none_ 60 54 (.call 54 [.nilSlice] (startS Try.prog [])) [] = some ({ e := .ret, ts := [uD], s := ⟨⟨[], 0, none, []⟩, 0⟩ }, [], []) := by kernel_rfl
end Go.Proofs.Ythooafgfpnedhaa.specsDo
namespace Go.Proofs.Ythooafgfpnedhaa.specsDo
open Go Go.Mini
theorem livR : runX Try.prog none_ 600 17 (.call 17 [] ⟨⟨[], 0, none, []⟩, 4⟩) [] = some ({ e := .ret, ts := [.bool true], s := ⟨⟨[], 0, some 4, []⟩, 98⟩ }, [], []) := by kernel_rfl
theorem livC (s : AS) : Sound Try.prog (.call 17 [] s) ⟨.ret, [.bool true], s⟩ :=
  Sound.put (bs0 := []) (runX_sound mixed none_sound livR trivial) noG (fun b => b) [] s trivial (fun b hb => by cases hb) List.nodup_nil List.nodup_nil (fun b hb => by cases hb) rfl rfl
/-! rows of calls of one's own -/
end Go.Proofs.Ythooafgfpnedhaa.specsDo
namespace Go.Proofs.Ythooafgfpnedhaa.specsDo
open Go Go.Mini Go.Proofs Go.RowKit Go.Maps Go.Sort Go.Shelf
/-! ### Sorted of the keys of a map that has none; rows of one -/
theorem sortsN : SortsN := fun s =>
  Sound.put (bs0 := []) (runX_sound mixed none_sound st_nil trivial) noG (fun b => b) [] s trivial (fun b hb => by cases hb) List.nodup_nil List.nodup_nil (fun b hb => by cases hb) rfl rfl
set_option maxHeartbeats 2000000 in
theorem sorted_zero {s : AS} {bx bm : Nat} {ro : Bool} {bn : List Nat} {ck : Nat} (hk : MapOk [] bn ck) (hx : s.get bx = some (.cells ro [.map bm])) (hm : s.get bm = some (.map (mapE .u64 .u64 []) bn ck)) :
    Sound Try.prog (.call 28 [.func (.func 55) [] [.ptr bx 0]] s) ⟨.ret, [.nilSlice], s⟩ := by
  intro B ρ cargs w R hargs
  obtain ⟨fv, vs, rfl, h1, h2⟩ := vrels_cons.1 hargs
  have h2 := vrels_nil.1 h2
  subst h2
  obtain ⟨vs, ws, rfl, h3, h4⟩ := vrel_func.1 h1
  have h3 := vrels_nil.1 h3
  subst h3
  obtain ⟨u, us, rfl, h5, h6⟩ := vrels_cons.1 h4
  have h6 := vrels_nil.1 h6
  subst h6
  obtain ⟨L, hL, rfl⟩ := vrel_ptr.1 h5
  obtain ⟨c, hc, arr, e, fz, rfl, hsz, _, vs, hvs, hat⟩ := R.obj bx _ L hx hL
  obtain ⟨mv, vs', rfl, h7, _⟩ := vrels_cons.1 hvs
  obtain ⟨Lm, hLm, rfl⟩ := vrel_map.1 h7
  have hcell : w.cell? ⟨L.c, L.d, none⟩ = some (.map (some Lm.c)) := by
    have := hat 0 (.map (some Lm.c)) rfl
    rw [Nat.add_zero] at this
    simp [World.cell?, hc, this]
  obtain ⟨c2, hc2, ents, rfl, he, hbn⟩ := R.obj bm _ Lm hm hLm
  obtain ⟨D0, hown, hsize, hhas⟩ := owns_of hk hc2 he hbn
  have hmax : Maps.size D0 ≤ maxLen := by have := hk.len; rw [hsize]; unfold maxLen; omega
  have hbytes : Maps.size D0 * 8 ≤ 140737488355328 := by have := hk.len; rw [hsize]; omega
  obtain ⟨F, hF⟩ : ∃ F : Fence, F = Fence.wide := ⟨_, rfl⟩
  obtain ⟨n, hn⟩ : ∃ n : Nat, 6 ≤ n := ⟨6, Nat.le_refl _⟩
  have h28 : F.fn 28 := by rw [hF]; trivial
  have h53 : F.fn 53 := by rw [hF]; trivial
  have h54 : F.fn 54 := by rw [hF]; trivial
  have h55 : F.fn 55 := by rw [hF]; trivial
  have h59 : F.fn 59 := by rw [hF]; trivial
  have hro : F.round = none := by rw [hF]; rfl
  have h1 : 1 ≤ n := by omega
  have hseq : SeqGives F (n - 1 - 1 - 1) Try.prog 55 #[.pointer (some ⟨L.c, L.d, none⟩)] encU (fun ss => KeysU D0 ss) (Maps.size D0) w :=
    keys_gives F _ h55 hro (by omega) L.c L.d Lm.c ([] : List (Int × Int)).length D0 w (R.lt bx L hL) hcell hown
  refine (callsIn_wide (n := n)).1 ?_
  rw [← hF]
  have HF : Hid (F = Fence.wide) := hF
  clear hF
  refine callsIn_of_wp Try.func28 rfl h28 ?_ hro
  simp only [Try.ntmps28, List.size_toArray, List.length_cons, List.length_nil, Nat.reduceAdd, Nat.reduceSub, Array.replicate_succ, Array.replicate_zero, List.push_toArray, List.append_toArray, List.nil_append, List.cons_append]
  gi_wp2_with (gi_at_call 53; refine (collect_in F (n - 1) h53 h59 hro (by omega) 55 _ h55 (enters_of Try.func55 (by kernel_rfl) rfl) _ _ hmax hbytes _ hseq.bounded).mono ?_; rintro e W ⟨v, ss, rfl, ⟨hS', hlen⟩, hrow, hnil, hb⟩)
  have hperm := keys_perm hS' (by simp) hhas
  have hss : ss = [] := List.eq_nil_of_length_eq_zero (by have := hperm.length_eq; simpa using this)
  have hv : v = .slice none 0 0 := hnil.2 hss
  subst hv
  have R2 := R.grown (w' := W) ⟨hb.os, hb.tape, hb.output, hb.size, fun k hk => hb.block k hk⟩
  have cS := sortsN s B ρ [.slice none 0 0] W R2 (vrels_cons.2 ⟨_, _, rfl, vrel_nilSlice.2 rfl, vrels_nil.2 rfl⟩)
  have cS := (callsIn_wide (n := n - 1)).2 cS
  have hF : F = Fence.wide := HF
  rw [← hF] at cS
  clear hF
  gi_wp2_with (gi_at_call 54; refine cS.mono ?_; rintro e w' ⟨v', u, ρ2, h1', rfl, h3', hp2⟩)
  go_ret
  exact ⟨_, _, ρ2, rfl, rfl, vrel_nilSlice.2 rfl, (Post.grown R ⟨hb.os, hb.tape, hb.output, hb.size, fun k hk => hb.block k hk⟩).trans hp2⟩
set_option maxHeartbeats 2000000 in
theorem sorted_nil {s : AS} {bx : Nat} {ro : Bool} (hx : s.get bx = some (.cells ro [.nilMap])) :
    Sound Try.prog (.call 28 [.func (.func 55) [] [.ptr bx 0]] s) ⟨.ret, [.nilSlice], s⟩ := by
  intro B ρ cargs w R hargs
  obtain ⟨fv, vs, rfl, h1, h2⟩ := vrels_cons.1 hargs
  have h2 := vrels_nil.1 h2
  subst h2
  obtain ⟨vs, ws, rfl, h3, h4⟩ := vrel_func.1 h1
  have h3 := vrels_nil.1 h3
  subst h3
  obtain ⟨u, us, rfl, h5, h6⟩ := vrels_cons.1 h4
  have h6 := vrels_nil.1 h6
  subst h6
  obtain ⟨L, hL, rfl⟩ := vrel_ptr.1 h5
  obtain ⟨c, hc, arr, e, fz, rfl, hsz, _, vs, hvs, hat⟩ := R.obj bx _ L hx hL
  obtain ⟨mv, vs', rfl, h7, _⟩ := vrels_cons.1 hvs
  have h7 := vrel_nilMap.1 h7
  subst h7
  have hcell : w.cell? ⟨L.c, L.d, none⟩ = some (.map none) := by
    have := hat 0 (.map none) rfl
    rw [Nat.add_zero] at this
    simp [World.cell?, hc, this]
  obtain ⟨F, hF⟩ : ∃ F : Fence, F = Fence.wide := ⟨_, rfl⟩
  obtain ⟨n, hn⟩ : ∃ n : Nat, 6 ≤ n := ⟨6, Nat.le_refl _⟩
  have h28 : F.fn 28 := by rw [hF]; trivial
  have h53 : F.fn 53 := by rw [hF]; trivial
  have h54 : F.fn 54 := by rw [hF]; trivial
  have h55 : F.fn 55 := by rw [hF]; trivial
  have h59 : F.fn 59 := by rw [hF]; trivial
  have hro : F.round = none := by rw [hF]; rfl
  have h1 : 1 ≤ n := by omega
  have hseq : SeqGives F (n - 1 - 1 - 1) Try.prog 55 #[.pointer (some ⟨L.c, L.d, none⟩)] encU (fun ss : List Int => ss = []) 0 w :=
    keys_gives_nil F _ h55 hro L.c L.d w (R.lt bx L hL) hcell
  refine (callsIn_wide (n := n)).1 ?_
  rw [← hF]
  have HF : Hid (F = Fence.wide) := hF
  clear hF
  refine callsIn_of_wp Try.func28 rfl h28 ?_ hro
  simp only [Try.ntmps28, List.size_toArray, List.length_cons, List.length_nil, Nat.reduceAdd, Nat.reduceSub, Array.replicate_succ, Array.replicate_zero, List.push_toArray, List.append_toArray, List.nil_append, List.cons_append]
  gi_wp2_with (gi_at_call 53; refine (collect_in F (n - 1) h53 h59 hro (by omega) 55 _ h55 (enters_of Try.func55 (by kernel_rfl) rfl) _ 0 (Nat.zero_le _) (by decide) _ hseq).mono ?_; rintro e W ⟨v, ss, rfl, hS', hrow, hnil, hb⟩)
  have hv : v = .slice none 0 0 := hnil.2 hS'
  subst hv
  have R2 := R.grown (w' := W) ⟨hb.os, hb.tape, hb.output, hb.size, fun k hk => hb.block k hk⟩
  have cS := sortsN s B ρ [.slice none 0 0] W R2 (vrels_cons.2 ⟨_, _, rfl, vrel_nilSlice.2 rfl, vrels_nil.2 rfl⟩)
  have cS := (callsIn_wide (n := n - 1)).2 cS
  have hF : F = Fence.wide := HF
  rw [← hF] at cS
  clear hF
  gi_wp2_with (gi_at_call 54; refine cS.mono ?_; rintro e w' ⟨v', u, ρ2, h1', rfl, h3', hp2⟩)
  go_ret
  exact ⟨_, _, ρ2, rfl, rfl, vrel_nilSlice.2 rfl, (Post.grown R ⟨hb.os, hb.tape, hb.output, hb.size, fun k hk => hb.block k hk⟩).trans hp2⟩
end Go.Proofs.Ythooafgfpnedhaa.specsDo
namespace Go.Proofs.Ythooafgfpnedhaa.specsDo.pq
open Go Go.Mini
def T16 (u1 u2 : AV) (i : Nat) : List AV := u1 :: u2 :: uu :: uu :: uu :: .int .i64 (Int.ofNat i) :: List.replicate 27 uu
def T25 (n i : Nat) : List AV := .slice 0 0 n n :: uu :: .int .i64 (Int.ofNat i) :: List.replicate 9 uu
end Go.Proofs.Ythooafgfpnedhaa.specsDo.pq
