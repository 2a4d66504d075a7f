/- How long it takes; readers of the small heap, wherever it lies. Conditions: those that each theorem names, and no others. -/
import Derived.Test.YtchekpapgfojhaaGreatDoorBack11
namespace Go.Proofs.YtchekpapgfojhaaGreatDoor.ctlsFallback
open Go Go.Mini
/-! ### the plain Switch: its states stay sound, and it ends in time -/
theorem get_put (a v : _) : ∀ (ms : MS) (a' : A3), getW (putW ms a v) a' = if a' = a then v else getW ms a'
  | [], a' => by
    simp only [putW, getW]
  | x :: t, a' => by
    simp only [putW]
    by_cases h : a = x.1
    · simp only [if_pos h, getW]
      by_cases h2 : a' = a
      · simp [h2]
      · have : ¬ a' = x.1 := fun e => h2 (e.trans h.symm)
        simp [h2, this]
    · simp only [if_neg h, getW]
      by_cases h2 : a' = x.1
      · have : ¬ a' = a := fun e => h (e.symm.trans h2)
        simp [h2]
        intro e
        exact absurd e.symm h
      · simp only [if_neg h2]
        exact get_put a v t a'
structure PM.Ok (m : PM) (k : Nat) : Prop where
  val : ∀ a, getW m.ms a < 18446744073709551616
  len : m.ms.length ≤ k
theorem PM.Ok.load {m : PM} {k : Nat} (h : m.Ok k) (a : A3) : (m.load a).Ok k := ⟨h.val, h.len⟩
theorem PM.Ok.put {m : PM} {k : Nat} (h : m.Ok k) (a : A3) {v : Nat} (hv : v < 18446744073709551616) (a' : A3) : getW (putW m.ms a v) a' < 18446744073709551616 := by
  rw [get_put]
  split
  · exact hv
  · exact h.val a'
theorem put_len1 (ms : MS) (a : A3) (v : Nat) : (putW ms a v).length ≤ ms.length + 1 := by
  rw [put_len]
  split <;> omega
theorem PM.Ok.cas {m : PM} {k : Nat} (h : m.Ok k) (a : A3) (w : Nat) {v : Nat} (hv : v < 18446744073709551616) : (m.cas a w v).Ok (k + 1) := by
  have := h.len
  have h2 := put_len1 m.ms a v
  unfold PM.cas
  split
  · exact ⟨h.put a hv, by show (putW m.ms a v).length ≤ _; omega⟩
  · exact ⟨h.val, by show m.ms.length ≤ _; omega⟩
theorem PM.Ok.store {m : PM} {k : Nat} (h : m.Ok k) (a : A3) {v : Nat} (hv : v < 18446744073709551616) : (m.store a v).Ok (k + 1) := by
  have := h.len
  have h2 := put_len1 m.ms a v
  unfold PM.store
  split
  · exact ⟨h.put a hv, by show (putW m.ms a v).length ≤ _; omega⟩
  · exact ⟨h.val, by show m.ms.length ≤ _; omega⟩
theorem PM.Ok.mono {m : PM} {k l : Nat} (h : m.Ok k) (hl : k ≤ l) : m.Ok l := ⟨h.val, Nat.le_trans h.len hl⟩
theorem ofp_lt (a b c n : Nat) : ofp a b c n < 18446744073709551616 := by
  have := cz_lt a
  unfold ofp
  omega
theorem newB_ok {n : Nat} {lk : Int} (hn : n < 281474976710656) (h0 : -9223372036854775808 ≤ lk) (h1 : lk ≤ 40) : (newB n lk).Ok :=
  ⟨hn, Nat.zero_le _, h0, h1, Nat.zero_le _, fun _ => ⟨rfl, rfl, rfl⟩, fun h => absurd rfl h⟩
theorem step_ok {b : Br} (h : b.Ok) (v : Nat) (h0 : (b.step v).2 = 0) : (b.step v).1.Ok := by
  obtain ⟨num, lk, th, all, at_, wt⟩ := b
  obtain ⟨h1, h2, h3, h4, h5, h6, h7⟩ := h
  simp only at h1 h2 h3 h4 h5 h6 h7
  unfold Br.step at h0 ⊢
  simp only at h0 ⊢
  split at h0
  · rename_i e0
    rw [if_pos e0]
    split at h0
    · cases h0
    · rename_i hv
      rw [if_neg hv]
      refine ⟨h1, by show 1 ≤ 4; omega, h3, h4, ?_, (fun h => by cases h), fun _ => ?_⟩
      · show 4 * (if 4 < v then 4 else v) ≤ 16
        split <;> omega
      · show 0 < 4 * (if 4 < v then 4 else v)
        split <;> omega
  · rename_i e0
    rw [if_neg e0]
    have hth := h7 e0
    split at h0
    · rename_i hp
      rw [if_pos hp]
      simp only at h0
      split at h0
      · cases h0
      · rename_i hne
        exact ⟨h1, by show 1 ≤ 4; omega, h3, h4, h5, (fun h => by cases h), fun _ => by show th + 1 < all; omega⟩
    · rename_i hp
      rw [if_neg hp]
      split at h0
      · rename_i h4'
        rw [if_pos h4']
        split at h0
        · cases h0
        · rename_i hl
          rw [if_neg hl]
          exact ⟨h1, by show 1 ≤ 4; omega, by show -9223372036854775808 ≤ lk - 1; omega, by show lk - 1 ≤ 40; omega, h5, (fun h => by cases h), fun _ => hth⟩
      · rename_i h4'
        rw [if_neg h4']
        exact ⟨h1, by show at_ + 1 ≤ 4; omega, h3, h4, h5, (fun h => by cases h), fun _ => hth⟩
def Br.mu (b : Br) : Nat := 4 * (16 - b.th) + 4 * (mlk b.lk).toNat + (4 - b.at_)
theorem mu_le {b : Br} (h : b.Ok) : b.mu ≤ 228 := by
  have h1 : (mlk b.lk).toNat ≤ 40 := by
    have := h.lk1
    unfold mlk
    split <;> omega
  unfold Br.mu
  omega
theorem step_mu {b : Br} (h : b.Ok) (v : Nat) (h0 : (b.step v).2 = 0) : (b.step v).1.mu < b.mu := by
  obtain ⟨num, lk, th, all, at_, wt⟩ := b
  obtain ⟨h1, h2, h3, h4, h5, h6, h7⟩ := h
  simp only at h1 h2 h3 h4 h5 h6 h7
  unfold Br.step at h0 ⊢
  simp only at h0 ⊢
  split at h0
  · rename_i e0
    rw [if_pos e0]
    have := (h6 e0).1
    split at h0
    · cases h0
    · rename_i hv
      rw [if_neg hv]
      show 4 * (16 - 0) + 4 * (mlk lk).toNat + (4 - 1) < 4 * (16 - th) + 4 * (mlk lk).toNat + (4 - at_)
      omega
  · rename_i e0
    rw [if_neg e0]
    have hth := h7 e0
    split at h0
    · rename_i hp
      rw [if_pos hp]
      show 4 * (16 - (th + 1)) + 4 * (mlk lk).toNat + (4 - 1) < 4 * (16 - th) + 4 * (mlk lk).toNat + (4 - at_)
      omega
    · rename_i hp
      rw [if_neg hp]
      split at h0
      · rename_i h4'
        rw [if_pos h4']
        split at h0
        · cases h0
        · rename_i hl
          rw [if_neg hl]
          show 4 * (16 - th) + 4 * (mlk (lk - 1)).toNat + (4 - 1) < 4 * (16 - th) + 4 * (mlk lk).toNat + (4 - at_)
          rw [mlk_dec lk hl, mlk_one lk hl]
          omega
      · rename_i h4'
        rw [if_neg h4']
        show 4 * (16 - th) + 4 * (mlk lk).toNat + (4 - (at_ + 1)) < 4 * (16 - th) + 4 * (mlk lk).toNat + (4 - at_)
        omega
def SS.mu (σ : SS) : Nat := match σ.ln with
  | 0 => 0
  | 1 => 463
  | 2 => 462
  | 3 => 233 + σ.br.mu
  | 4 => 232
  | 5 => 231
  | 6 => 2 + σ.br.mu
  | _ => 1
theorem bar_ok (L : Nat) (hL : L ≤ 7) {w a b c n : Nat} {wt : Int} {br : Br} {m : PM} {to : Nat} {lk : Int} (hO : SS.Ok ⟨L, 4, w, wt, a, b, c, n, br⟩ to lk) (hlv : SS.live ⟨L, 4, w, wt, a, b, c, n, br⟩ = true) (h0 : (SS.bar ⟨L, 4, w, wt, a, b, c, n, br⟩ (br.step (getW m.ms br.adr))).ln ≠ 0) : (SS.bar ⟨L, 4, w, wt, a, b, c, n, br⟩ (br.step (getW m.ms br.adr))).Ok to lk := by
  have hB : br.Ok := hO.br hlv
  have hk := step_k br (getW m.ms br.adr)
  have hs := Go.Proofs.YtchekpapgfojhaaGreatDoor.ctlsFallback.step_ok hB (getW m.ms br.adr)
  obtain ⟨⟨k1, k2⟩, k3, k4, k5, k6, k7, k8, k9, k10⟩ := hO
  simp only at k1 k2 k4 k5 k6 k7 k8 k9
  have hL3 : L = 3 ∨ L = 6 := by
    simpa [SS.live] using hlv
  unfold SS.bar at h0 ⊢
  simp only at h0 ⊢
  rcases hk with e | e | e
  · rw [if_pos e] at h0 ⊢
    exact ⟨⟨k1, k2⟩, rfl, k4, k5, k6, k7, k8, k9, fun _ => hs e⟩
  · have e0 : ¬ (br.step (getW m.ms br.adr)).2 = 0 := by omega
    rw [if_neg e0, if_pos e] at h0 ⊢
    exact ⟨by show 1 ≤ L + 1 ∧ L + 1 ≤ 8; omega, rfl, k4, k5, k6, k7, k8, k9, fun h => by
      rcases hL3 with rfl | rfl <;> cases h⟩
  · have e0 : ¬ (br.step (getW m.ms br.adr)).2 = 0 := by omega
    have e1 : ¬ (br.step (getW m.ms br.adr)).2 = 1 := by omega
    rw [if_neg e0, if_neg e1] at h0 ⊢
    by_cases h3 : L = 3
    · rw [if_pos h3] at h0 ⊢
      exact ⟨by show 1 ≤ 8 ∧ 8 ≤ 8; omega, rfl, k4, k5, k6, k7, k8, k9, fun h => by cases h⟩
    · rw [if_neg h3] at h0
      exact absurd rfl h0
section
variable {σ : SS} {to : Nat} {lk : Int} (h : σ.Ok to lk) (l0 : -9223372036854775808 ≤ lk) (l1 : lk ≤ 40)
include h l0 l1
theorem swp_ok {m : PM} {a b c n ln2 en2 : Nat} (ha : a ≤ 3) (hb : b < 256) (hc : c < 256) (hn : n < 281474976710656) (hl : ln2 ≤ 8) (he : ln2 ≠ 0 → en2 = 4) (h0 : (σ.swp lk m a b c n ln2 en2).1.ln ≠ 0) : (σ.swp lk m a b c n ln2 en2).1.Ok to lk := by
  unfold SS.swp at h0 ⊢
  simp only at h0 ⊢
  by_cases hd : m.casd aP σ.w = true
  · rw [if_pos hd] at h0 ⊢
    exact ⟨⟨Nat.pos_of_ne_zero h0, hl⟩, he h0, ofp_lt _ _ _ _, ha, hb, hc, hn, h.to, fun _ => newB_ok hn l0 l1⟩
  · rw [if_neg hd] at h0
    exact absurd rfl h0
theorem SS.step_ok {m : PM} {k : Nat} (hm : m.Ok k) (h0 : (σ.step to lk m).1.ln ≠ 0) : (σ.step to lk m).1.Ok to lk := by
  obtain ⟨ln, en, w, wt, a, b, c, n, br⟩ := σ
  obtain ⟨⟨k1, k2⟩, k3, k4, k5, k6, k7, k8, k9, k10⟩ := h
  simp only at k1 k2 k3 k4 k5 k6 k7 k8 k9 k10
  subst k3
  have hO : SS.Ok ⟨ln, 4, w, wt, a, b, c, n, br⟩ to lk := ⟨⟨k1, k2⟩, rfl, k4, k5, k6, k7, k8, k9, k10⟩
  have hln : ln = 1 ∨ ln = 2 ∨ ln = 3 ∨ ln = 4 ∨ ln = 5 ∨ ln = 6 ∨ ln = 7 ∨ ln = 8 := by omega
  have nx := nx4_lt (a := a) (b := b) (c := c) (n := n) k6 k7 (show nx4 a b c n = ((nx4 a b c n).1, (nx4 a b c n).2.1, (nx4 a b c n).2.2.1, (nx4 a b c n).2.2.2) from rfl)
  have bg := bg4_lt (a := a) (b := b) (c := c) (n := n) (t := to) k6 k9 (show bg4 a b c n to = ((bg4 a b c n to).1, (bg4 a b c n to).2.1, (bg4 a b c n to).2.2.1, (bg4 a b c n to).2.2.2) from rfl)
  rcases hln with rfl | rfl | rfl | rfl | rfl | rfl | rfl | rfl
  · have hv := hm.val aP
    have h0 : (SS.one ⟨1, 4, w, wt, a, b, c, n, br⟩ to lk (getW m.ms aP)).ln ≠ 0 := h0
    show (SS.one ⟨1, 4, w, wt, a, b, c, n, br⟩ to lk (getW m.ms aP)).Ok to lk
    generalize getW m.ms aP = v at hv h0
    have hA := cz_lt (v % 8)
    have hN : v / 65536 % 281474976710656 < 281474976710656 := Nat.mod_lt _ (by omega)
    unfold SS.one at h0 ⊢
    split at h0
    · rename_i e
      rw [if_pos e]
      exact ⟨by show 1 ≤ 6 ∧ 6 ≤ 8; omega, rfl, hv, hA, by show v / 8 % 8 < 256; omega, by show v / 64 % 8 < 256; omega, hN, k9, fun _ => newB_ok hN l0 l1⟩
    · rename_i e
      rw [if_neg e]
      split at h0
      · rename_i e2
        rw [if_pos e2]
        exact ⟨by show 1 ≤ 2 ∧ 2 ≤ 8; omega, rfl, hv, hA, by show v / 8 % 8 < 256; omega, by show v / 64 % 8 < 256; omega, hN, k9, fun h => by cases h⟩
      · exact absurd rfl h0
  · exact swp_ok hO l0 l1 bg.1 bg.2.1 bg.2.2.1 bg.2.2.2 (by omega) (fun _ => rfl) h0
  · exact bar_ok 3 (by omega) hO rfl h0
  · exact swp_ok hO l0 l1 nx.1 nx.2.1 nx.2.2.1 nx.2.2.2 (by omega) (fun _ => rfl) h0
  · exact swp_ok hO l0 l1 nx.1 nx.2.1 nx.2.2.1 nx.2.2.2 (by omega) (fun _ => rfl) h0
  · exact bar_ok 6 (by omega) hO rfl h0
  · exact swp_ok hO l0 l1 nx.1 nx.2.1 nx.2.2.1 nx.2.2.2 (by omega) (fun h => absurd rfl h) h0
  · exact swp_ok hO l0 l1 (by omega) k6 (by omega) (mo_lt n) (by omega) (fun h => absurd rfl h) h0
end
/-! ### the small calls of the law -/
theorem ps_run (k x y : Int) (v : Nat) (oM oM2 om om2 oR oR2 oL oL2 o2 : AObj) : runX Tryz.prog none_ 60 8 (.call 8 [.agg [.ptr 7 0, .ptr 9 0], .agg [.int .u8 k, .int .i64 x, .int .i64 y, iw v]] ⟨⟨[(7, oM), (8, om), (9, oR), (10, oL)], 4, none, []⟩, 17⟩) [.call 8 1 6 ud (fun s => (s.set 7 oM2).set 8 om2), .call 8 2 6 ud (fun s => noteEsc (((s.set 9 oR2).set 10 oL2).push o2) 9 true)] = some ({ e := .ret, ts := [ud], s := ⟨⟨[(19, o2), (18, .cells false [.int .u8 k, .int .i64 x, .int .i64 y, iw v]), (17, .cells false [.ptr 7 0, .ptr 9 0]), (7, oM2), (8, om2), (9, oR2), (10, oL2)], 7, some 9, [10, 9, 8, 7]⟩, 20⟩ }, [], [Qst.snd (Task.call 29 [.ptr 7 0, .agg [.int .u8 k, .int .i64 x, .int .i64 y], iw v] ⟨⟨[(18, .cells false [.int .u8 k, .int .i64 x, .int .i64 y, iw v]), (17, .cells false [.ptr 7 0, .ptr 9 0]), (7, oM), (8, om), (9, oR), (10, oL)], 6, none, []⟩, 19⟩) { e := .ret, ts := [ud], s := ⟨⟨[(18, .cells false [.int .u8 k, .int .i64 x, .int .i64 y, iw v]), (17, .cells false [.ptr 7 0, .ptr 9 0]), (7, oM2), (8, om2), (9, oR), (10, oL)], 6, none, [8, 7]⟩, 19⟩ }, Qst.snd (Task.call 30 [.ptr 9 0, .agg [.int .u8 k, .int .i64 x, .int .i64 y], iw v] ⟨⟨[(18, .cells false [.int .u8 k, .int .i64 x, .int .i64 y, iw v]), (17, .cells false [.ptr 7 0, .ptr 9 0]), (7, oM2), (8, om2), (9, oR), (10, oL)], 6, none, [8, 7]⟩, 19⟩) { e := .ret, ts := [ud], s := ⟨⟨[(19, o2), (18, .cells false [.int .u8 k, .int .i64 x, .int .i64 y, iw v]), (17, .cells false [.ptr 7 0, .ptr 9 0]), (7, oM2), (8, om2), (9, oR2), (10, oL2)], 7, some 9, [10, 9, 8, 7]⟩, 20⟩ }]) := by kernel_rfl
theorem same_run (st kd a1 a2 a3 : Int) (wa is : Nat) (dn : Bool) (lv : AV) : runX Tryz.prog none_ 60 14 (.call 14 [.agg [.ptr 7 0, .ptr 9 0]] ⟨⟨[(7, .cells true [.map 8, .int .i64 st, .int .u8 kd, .int .u8 a1, .int .i64 a2, .int .i64 a3, iw wa, iw is, .bool dn]), (9, .cells true [lv, .int .i64 st, .int .u8 kd, .int .u8 a1, .int .i64 a2, .int .i64 a3, iw wa, iw is, .bool dn])], 2, none, []⟩, 32⟩) [.val 14 1 8 (.bool true), .val 14 1 18 (.bool true)] = some ({ e := .ret, ts := [.bool true], s := ⟨⟨[(7, .cells true [.map 8, .int .i64 st, .int .u8 kd, .int .u8 a1, .int .i64 a2, .int .i64 a3, iw wa, iw is, .bool dn]), (9, .cells true [lv, .int .i64 st, .int .u8 kd, .int .u8 a1, .int .i64 a2, .int .i64 a3, iw wa, iw is, .bool dn])], 2, none, []⟩, 34⟩ }, [], [Qst.eqv ⟨⟨[(32, .cells false [.ptr 7 0, .ptr 9 0]), (7, .cells true [.map 8, .int .i64 st, .int .u8 kd, .int .u8 a1, .int .i64 a2, .int .i64 a3, iw wa, iw is, .bool dn]), (9, .cells true [lv, .int .i64 st, .int .u8 kd, .int .u8 a1, .int .i64 a2, .int .i64 a3, iw wa, iw is, .bool dn])], 3, none, []⟩, 34⟩ 77 [.int .u8 kd, .int .u8 a1, .int .i64 a2, .int .i64 a3, iw wa, iw is, .bool dn] [.int .u8 kd, .int .u8 a1, .int .i64 a2, .int .i64 a3, iw wa, iw is, .bool dn] true (.bool true), Qst.val (some (.bool (st == st))) (.bool true)]) := by kernel_rfl
theorem got_n (_ : Fn) (_ _ : List AV) (en to w a b c n : Nat) (lk : Int) (bp _ _ _ _ _ _ _ : AV) (_ : Bool) (_ : Int) : runX Tryz.prog none_ 60 16 (.call 16 [.ptr 11 0] ⟨⟨[(11, .cells true [.nilFunc, ii en, .bool true, i8 to, .int .i64 lk, iw w, i8 a, i8 b, i8 c, iw n, bp])], 1, none, []⟩, 32⟩) [] = some ({ e := .ret, ts := [ii en], s := ⟨⟨[(11, .cells true [.nilFunc, ii en, .bool true, i8 to, .int .i64 lk, iw w, i8 a, i8 b, i8 c, iw n, bp])], 1, none, []⟩, 32⟩ }, [], []) := by kernel_rfl
theorem got_f (fn : Fn) (f1 f2 : List AV) (en to w a b c n : Nat) (lk : Int) (bp _ _ _ _ _ _ _ : AV) (_ : Bool) (_ : Int) : runX Tryz.prog none_ 60 16 (.call 16 [.ptr 11 0] ⟨⟨[(11, .cells true [.func fn f1 f2, ii en, .bool true, i8 to, .int .i64 lk, iw w, i8 a, i8 b, i8 c, iw n, bp])], 1, none, []⟩, 32⟩) [] = some ({ e := .ret, ts := [ii 4], s := ⟨⟨[(11, .cells true [.func fn f1 f2, ii en, .bool true, i8 to, .int .i64 lk, iw w, i8 a, i8 b, i8 c, iw n, bp])], 1, none, []⟩, 32⟩ }, [], []) := by kernel_rfl
theorem waits_n (_ : Fn) (_ _ : List AV) (en to w a b c n : Nat) (lk : Int) (_ _ _ _ _ _ _ _ : AV) (_ : Bool) (_ : Int) (nx : AV) : runX Tryz.prog none_ 60 17 (.call 17 [.ptr 11 0] ⟨⟨[(11, .cells true [nx, ii en, .bool true, i8 to, .int .i64 lk, iw w, i8 a, i8 b, i8 c, iw n, .nilPtr])], 1, none, []⟩, 32⟩) [] = some ({ e := .ret, ts := [.int .i64 (Int.negSucc 0)], s := ⟨⟨[(11, .cells true [nx, ii en, .bool true, i8 to, .int .i64 lk, iw w, i8 a, i8 b, i8 c, iw n, .nilPtr])], 1, none, []⟩, 32⟩ }, [], []) := by kernel_rfl
theorem waits_p (_ : Fn) (_ _ : List AV) (en to w a b c n : Nat) (lk : Int) (_ b2 b3 b4 b5 b6 _ b8 : AV) (on : Bool) (wt : Int) (nx : AV) : runX Tryz.prog none_ 60 17 (.call 17 [.ptr 11 0] ⟨⟨[(11, .cells true [nx, ii en, .bool true, i8 to, .int .i64 lk, iw w, i8 a, i8 b, i8 c, iw n, (.ptr 13 0)]), (13, .cells true [.bool true, .bool on, b2, b3, b4, b5, b6, .int .i64 wt, b8])], 2, none, []⟩, 32⟩) [] = some ({ e := .ret, ts := [.int .i64 wt], s := ⟨⟨[(11, .cells true [nx, ii en, .bool true, i8 to, .int .i64 lk, iw w, i8 a, i8 b, i8 c, iw n, .ptr 13 0]), (13, .cells true [.bool true, .bool on, b2, b3, b4, b5, b6, .int .i64 wt, b8])], 2, none, []⟩, 32⟩ }, [], []) := by kernel_rfl
/-! ### the law's small calls, where things lie -/
theorem eq_acc (s : AS) (a b c d e f : Int) (x : Bool) : eqlA Tryz.prog s 77 (.agg [.int .u8 a, .int .u8 b, .int .i64 c, .int .i64 d, .int .u64 e, .int .u64 f, .bool x]) (.agg [.int .u8 a, .int .u8 b, .int .i64 c, .int .i64 d, .int .u64 e, .int .u64 f, .bool x]) =
    (bif a == a then (match (bif b == b then (bif c == c then (bif d == d then some true else some false) else some false) else some false) with
      | some true => (bif e == e then (bif f == f then (bif x == x then some true else some false) else some false) else some false)
      | some false => some false
      | none => none) else some false) := by kernel_rfl
theorem eq_acc1 (s : AS) (a b c d e f : Int) (x : Bool) : eqlA Tryz.prog s 77 (.agg [.int .u8 a, .int .u8 b, .int .i64 c, .int .i64 d, .int .u64 e, .int .u64 f, .bool x]) (.agg [.int .u8 a, .int .u8 b, .int .i64 c, .int .i64 d, .int .u64 e, .int .u64 f, .bool x]) = some true := by
  rw [eq_acc]
  simp
/-- A reader, where what it reads lies. -/
theorem readAt {f : FuncId} {args : List AV} {v : AV} {bs : List (Nat × AObj)} {n0 : Nat} {e : AExit} {s1 : AS} (h : Sound Tryz.prog (.call f args ⟨⟨bs, n0, none, []⟩, 32⟩) ⟨e, [v], s1⟩) (π : Nat → Nat) (hg : ∀ g, g < 3 → π g = g) (s : AS)
    (hb : eachX (fun b o => b < 32 ∧ ∃ cs ro, o = .cells true cs ∧ namess (fun b => Nat.blt b 32) cs = true ∧ s.get (π b) = some (.cells ro (rens π cs))) bs) (ha : namess (fun b => Nat.blt b 32) args = true) (hv : v.names (fun _ => false) = true) : Sound Tryz.prog (.call f (rens π args) s) ⟨.ret, [v], s⟩ := by
  have := Sound.frame h π s (fun g hg' => by rw [gl3] at hg'; exact ⟨show g < 32 by omega, hg g hg'⟩) (fun k hk => by
    obtain ⟨x, hx, rfl⟩ := List.mem_map.1 hk
    exact (eachX_mem hb x hx).1) (fun b o hbo => by
    obtain ⟨y, hy, rfl, rfl⟩ := getB_entry (show getB bs b = some o from hbo)
    exact (eachX_mem hb y hy).2) ha (names_sub (fun _ h => by cases h) hv) .ret
  rwa [ren_congr (p := fun _ => false) (π' := fun b => b) (fun _ h => by cases h) hv, ren_id] at this
theorem same_at {s : AS} {m : PM} {lv : AV} {r7 r9 : Bool} (hlv : lv.names (fun b => Nat.blt b 32) = true) (k7 : s.get 7 = some (.cells r7 (m.C (.map 8)))) (k9 : s.get 9 = some (.cells r9 (m.C lv))) : Sound Tryz.prog (.call 14 [.agg [.ptr 7 0, .ptr 9 0]] s) ⟨.ret, [.bool true], s⟩ := by
  refine readAt (args := [.agg [.ptr 7 0, .ptr 9 0]]) (runX_sound mixed none_sound (same_run m.st m.kd m.a.1 m.a.2.1 m.a.2.2 m.was m.is m.dn lv) ⟨⟨true, eq_acc1 _ _ _ _ _ _ _ _, by simp⟩, by simp [Qst.ok], trivial⟩) (fun b => b) (fun _ _ => rfl) s
    ⟨⟨show 7 < 32 by decide, _, r7, rfl, rfl, by rw [rens_id]; exact k7⟩, ⟨show 9 < 32 by decide, _, r9, rfl, C_names _ m lv hlv, by rw [rens_id]; exact k9⟩, trivial⟩ rfl rfl
theorem NX_cases {σ : SS} {to n15 n16 : Nat} {nxt : AV} {O : Nat → AObj} (h : NX σ to n15 n16 nxt O) (h15 : n15 < 32) (h16 : n16 < 32) : (σ.ln = 0 ∧ nxt = .nilFunc) ∨ (σ.ln ≠ 0 ∧ ∃ f a c, nxt = .func f a c ∧ nxt.names (fun b => Nat.blt b 32) = true) := by
  have q15 : Nat.blt n15 32 = true := by simpa using h15
  have q16 : Nat.blt n16 32 = true := by simpa using h16
  unfold NX at h
  split at h
  · exact .inl ⟨by assumption, h⟩
  · exact .inr ⟨by omega, _, _, _, h, by rw [h]; rfl⟩
  · exact .inr ⟨by omega, _, _, _, h.1, by rw [h.1]; show (true && (Nat.blt n15 32 && (Nat.blt n16 32 && true))) = true; rw [q15, q16]; rfl⟩
  · exact .inr ⟨by omega, _, _, _, h.1, by rw [h.1]; show (true && (Nat.blt n15 32 && (Nat.blt n16 32 && true))) = true; rw [q15, q16]; rfl⟩
  · exact .inr ⟨by omega, _, _, _, h.1, by rw [h.1]; show (true && (Nat.blt n15 32 && true)) = true; rw [q15]; rfl⟩
  · exact .inr ⟨by omega, _, _, _, h, by rw [h]; rfl⟩
  · exact .inr ⟨by omega, _, _, _, h.1, by rw [h.1]; show (true && (Nat.blt n15 32 && (Nat.blt n16 32 && true))) = true; rw [q15, q16]; rfl⟩
  · exact .inr ⟨by omega, _, _, _, h.1, by rw [h.1]; show (true && (Nat.blt n15 32 && true)) = true; rw [q15]; rfl⟩
  · rename_i h0 _ _ _ _ _ _ _
    exact .inr ⟨h0, _, _, _, h, by rw [h]; rfl⟩
section
variable {σ : SS} {to : Nat} {lk : Int} {n13 n15 n16 : Nat} {nxt : AV} {xa xb xc xn : Nat} {bpx : AV} {O : Nat → AObj} (h : XS σ to n13 n15 n16 nxt xa xb xc xn bpx O) (q13 : n13 < 32) (q15 : n15 < 32) (q16 : n16 < 32) (hen : σ.ln ≠ 0 → σ.en = 4) {s : AS} (k11 : s.get 11 = some (.cells false (σ.X to lk nxt xa xb xc xn bpx)))
include h q13 q15 q16 k11
omit h q15 q16 k11 in
theorem XS.bnames (h : XS σ to n13 n15 n16 nxt xa xb xc xn bpx O) : bpx.names (fun b => Nat.blt b 32) = true := by
  have q : Nat.blt n13 32 = true := by simpa using q13
  have hw := h.wx
  unfold WX at hw
  split at hw
  · rw [hw.1]
    exact q
  · rcases hw with ⟨e, _⟩ | ⟨_, e, _⟩ <;> rw [e]
    · rfl
    · exact q
include hen in
theorem got_at : Sound Tryz.prog (.call 16 [.ptr 11 0] s) ⟨.ret, [.int .i64 (Int.ofNat σ.en)], s⟩ := by
  have hbn := XS.bnames q13 h
  have e0 : ∀ l : List AV, rens (fun b => b) l = l := rens_id
  rcases NX_cases h.nx q15 q16 with ⟨h0, rfl⟩ | ⟨h0, f, a, c, rfl, hn⟩
  · rw [show σ.en = (if σ.ln = 0 then σ.en else 0) from by rw [if_pos h0]]
    refine readAt (args := [.ptr 11 0]) (runX_sound mixed none_sound (got_n (.func 0) [] [] (if σ.ln = 0 then σ.en else 0) to σ.w xa xb xc xn lk bpx .nilPtr .nilPtr .nilPtr .nilPtr .nilPtr .nilPtr .nilPtr false 0) trivial) (fun b => b) (fun _ _ => rfl) s ⟨⟨show 11 < 32 by decide, _, false, rfl, ?_, by rw [e0]; exact k11⟩, trivial⟩ rfl rfl
    show (bpx.names _ && true) = true
    rw [hbn]
    rfl
  · rw [hen h0]
    refine readAt (args := [.ptr 11 0]) (runX_sound mixed none_sound (got_f f a c (if σ.ln = 0 then σ.en else 0) to σ.w xa xb xc xn lk bpx .nilPtr .nilPtr .nilPtr .nilPtr .nilPtr .nilPtr .nilPtr false 0) trivial) (fun b => b) (fun _ _ => rfl) s ⟨⟨show 11 < 32 by decide, _, false, rfl, ?_, by rw [e0]; exact k11⟩, trivial⟩ rfl rfl
    show ((AV.func f a c).names (fun b => Nat.blt b 32) && (true && (true && (true && (true && (true && (true && (true && (true && (true && (bpx.names (fun b => Nat.blt b 32) && true))))))))))) = true
    rw [hbn, hn]
    rfl
end
theorem NX_ren {σ : SS} {to n15 n16 : Nat} {nxt : AV} {O : Nat → AObj} (h : NX σ to n15 n16 nxt O) (π : Nat → Nat) (p11 : π 11 = 11) (p15 : π n15 = n15) (p16 : π n16 = n16) : nxt.ren π = nxt := by
  unfold NX at h
  split at h
  · rw [h]; rfl
  · rw [h]; show AV.func _ [.ptr (π 11) 0] [] = _; rw [p11]
  · rw [h.1]; show AV.func _ [] [.ptr (π n15) 0, .ptr (π n16) 0] = _; rw [p15, p16]
  · rw [h.1]; show AV.func _ [] [.ptr (π n15) 0, .ptr (π n16) 0] = _; rw [p15, p16]
  · rw [h.1]; show AV.func _ [] [.ptr (π n15) 0] = _; rw [p15]
  · rw [h]; show AV.func _ [.ptr (π 11) 0] [] = _; rw [p11]
  · rw [h.1]; show AV.func _ [] [.ptr (π n15) 0, .ptr (π n16) 0] = _; rw [p15, p16]
  · rw [h.1]; show AV.func _ [] [.ptr (π n15) 0] = _; rw [p15]
  · rw [h]; show AV.func _ [.ptr (π 11) 0] [] = _; rw [p11]
section
variable {σ : SS} {to : Nat} {lk : Int} {n13 n15 n16 : Nat} {nxt : AV} {xa xb xc xn : Nat} {bpx : AV} {O : Nat → AObj} (h : XS σ to n13 n15 n16 nxt xa xb xc xn bpx O) (q15 : n15 < 32) (q16 : n16 < 32) (d15 : n15 ≠ 13) (d16 : n16 ≠ 13) {s : AS} (k11 : s.get 11 = some (.cells false (σ.X to lk nxt xa xb xc xn bpx))) (k13 : s.get n13 = some (O n13))
include h q15 q16 d15 d16 k11 k13
theorem waits_at : Sound Tryz.prog (.call 17 [.ptr 11 0] s) ⟨.ret, [.int .i64 σ.wt], s⟩ := by
  have e0 : ∀ l : List AV, rens (fun b => b) l = l := rens_id
  have hnn : nxt.names (fun b => Nat.blt b 32) = true := by
    rcases NX_cases h.nx q15 q16 with ⟨_, rfl⟩ | ⟨_, f, a, c, rfl, hn⟩
    · rfl
    · exact hn
  have fin : ∀ (b0 : Br) (on : Bool) (b2 b3 b4 b5 b6 b8 : AV), bpx = .ptr n13 0 → O n13 = .cells false [.bool true, .bool on, b2, b3, b4, b5, b6, .int .i64 b0.wt, b8] → namess (fun _ => false) [b2, b3, b4, b5, b6, b8] = true → σ.wt = b0.wt → Sound Tryz.prog (.call 17 [.ptr 11 0] s) ⟨.ret, [.int .i64 σ.wt], s⟩ := fun b0 on b2 b3 b4 b5 b6 b8 hb hO hnm hw => by
    subst hb
    rw [hw]
    have hr := NX_ren h.nx (fun x => if x = 13 then n13 else x) rfl (if_neg d15) (if_neg d16)
    simp only [namess, Bool.and_eq_true] at hnm
    have no : ∀ {a : AV}, a.names (fun _ => false) = true → ∀ π, a.ren π = a := fun ha π => by rw [ren_congr (p := fun _ => false) (π' := fun b => b) (fun _ h => by cases h) ha, ren_id]
    refine readAt (args := [.ptr 11 0]) (runX_sound mixed none_sound (waits_p (.func 0) [] [] (if σ.ln = 0 then σ.en else 0) to σ.w xa xb xc xn lk .nilPtr b2 b3 b4 b5 b6 .nilPtr b8 on b0.wt nxt) trivial) (fun x => if x = 13 then n13 else x) (fun g hg => if_neg (by omega)) s ⟨⟨show 11 < 32 by decide, _, false, rfl, ?_, ?_⟩, ⟨show 13 < 32 by decide, _, false, rfl, ?_, ?_⟩, trivial⟩ rfl rfl
    · show (nxt.names _ && true) = true
      rw [hnn]
      rfl
    · show s.get 11 = some (.cells false [nxt.ren _, _, _, _, _, _, _, _, _, _, .ptr n13 0])
      rw [hr]
      exact k11
    · show (true && (true && (b2.names _ && (b3.names _ && (b4.names _ && (b5.names _ && (b6.names _ && (true && (b8.names _ && true))))))))) = true
      rw [names_sub (fun _ h => by cases h) hnm.1, names_sub (fun _ h => by cases h) hnm.2.1, names_sub (fun _ h => by cases h) hnm.2.2.1, names_sub (fun _ h => by cases h) hnm.2.2.2.1, names_sub (fun _ h => by cases h) hnm.2.2.2.2.1, names_sub (fun _ h => by cases h) hnm.2.2.2.2.2.1]
      rfl
    · show s.get n13 = some (.cells false [_, _, b2.ren _, b3.ren _, b4.ren _, b5.ren _, b6.ren _, _, b8.ren _])
      rw [no hnm.1, no hnm.2.1, no hnm.2.2.1, no hnm.2.2.2.1, no hnm.2.2.2.2.1, no hnm.2.2.2.2.2.1, k13, hO]
      rfl
  have hw := h.wx
  unfold WX at hw
  split at hw
  · obtain ⟨e1, e2, e3⟩ := hw
    exact fin σ.br true _ _ _ _ _ _ e1 e2 rfl e3
  · rcases hw with ⟨rfl, e2⟩ | ⟨_, e1, b0, e2, e3⟩
    · rw [e2]
      refine readAt (args := [.ptr 11 0]) (runX_sound mixed none_sound (waits_n (.func 0) [] [] (if σ.ln = 0 then σ.en else 0) to σ.w xa xb xc xn lk .nilPtr .nilPtr .nilPtr .nilPtr .nilPtr .nilPtr .nilPtr .nilPtr false 0 nxt) trivial) (fun b => b) (fun _ _ => rfl) s ⟨⟨show 11 < 32 by decide, _, false, rfl, ?_, by rw [e0]; exact k11⟩, trivial⟩ rfl rfl
      show (nxt.names _ && true) = true
      rw [hnn]
      rfl
    · exact fin b0 false _ _ _ _ _ _ e1 e2 rfl e3
end
/-! ### Pair.Store -/
def SC (h : AH) (x : A3) (v : Nat) (m : PM) : Prop := ∃ lv oL pA, Row2 m.ms 10 17 lv oL pA ∧ Sound Tryz.prog (.call 8 [.agg [.ptr 7 0, .ptr 9 0], .agg (wc (x, v))] ⟨h, 17⟩) ⟨.ret, [undefA], (((((⟨h, 17⟩ : AS).set 7 (.cells false (m.C (.map 8)))).set 8 (mapO m.ms)).set 9 (.cells false (m.C lv))).set 10 oL).push pA⟩
theorem S_at {h : AH} {m : PM} {o10 : AObj} (k7 : AS.get ⟨h, 17⟩ 7 = some (.cells false (m.C (.map 8)))) (k8 : AS.get ⟨h, 17⟩ 8 = some (mapO m.ms)) (k9 : AS.get ⟨h, 17⟩ 9 = some (.cells false (m.C (LV m.ms 10)))) (k10 : AS.get ⟨h, 17⟩ 10 = some o10) (hr : RO m.ms o10) (hl : m.ms.length < 16776000) (x : A3) (h0 : 0 ≤ x.1) (v : Nat) : SC h x v (m.store x v) := by
  obtain ⟨lv, oL2, o2, h2, hp⟩ := rstore_at (m := m) (b := 9) (bL := 10) (s := ⟨⟨[(18, .cells false (wc (x, v))), (17, .cells false [.ptr 7 0, .ptr 9 0]), (7, .cells false ((m.store x v).C (.map 8))), (8, mapO (m.store x v).ms), (9, .cells false (m.C (LV m.ms 10))), (10, o10)], 6, none, [8, 7]⟩, 19⟩) rfl rfl hr (by decide) hl x h0 v
  have hx := runX_sound mixed none_sound (ps_run x.1 x.2.1 x.2.2 v (.cells false (m.C (.map 8))) (.cells false ((m.store x v).C (.map 8))) (mapO m.ms) (mapO (m.store x v).ms) (.cells false (m.C (LV m.ms 10))) (.cells false ((m.store x v).C lv)) o10 oL2 o2) ⟨pstore_at (m := m) (b := 7) (bm := 8) rfl rfl x h0 v, escAny hp _, trivial⟩
  have h2n := h2.names (pN 17 [19]) rfl rfl
  have := extN (bs0 := [(7, .cells false (m.C (.map 8))), (8, mapO m.ms), (9, .cells false (m.C (LV m.ms 10))), (10, o10)]) (Fz := []) hx (by decide) [19] (s := ⟨h, 17⟩) (fun x hx => by cases hx)
    ⟨⟨show 7 < 17 by decide, rfl, rfl, rfl, k7, .inl rfl, rfl⟩, ⟨show 8 < 17 by decide, rfl, mapO_names _ _, rfl, k8, .inl rfl, mapO_names _ _⟩, ⟨show 9 < 17 by decide, rfl, C_names _ _ _ (LV_names _ _ _ rfl), rfl, k9, .inl rfl, C_names _ _ _ h2n⟩,
      ⟨show 10 < 17 by decide, hr.free.1, hr.free.nm _, rfl, k10, h2.o1.1, h2.o1.2 _⟩, trivial⟩
    (show [7, 8, 9, 10].Nodup by decide) (show [19].Nodup by decide) (fun b hb => by
      rcases List.mem_cons.1 hb with rfl | hb
      · exact ⟨by decide, h2.o2.1, h2.o2.nm _⟩
      · cases hb) rfl rfl
  refine ⟨lv.ren (pR 17 [19] (fun b => b) 17), oL2, o2, h2.ren (pR 17 [19] (fun b => b) 17), ?_⟩
  have e8 : (mapO (m.store x v).ms).ren (pR 17 [19] (fun b => b) 17) = mapO (m.store x v).ms := mapO_ren _ _
  have this : Sound Tryz.prog (.call 8 [.agg [.ptr 7 0, .ptr 9 0], .agg (wc (x, v))] ⟨h, 17⟩) ⟨.ret, [undefA], (((((⟨h, 17⟩ : AS).set 7 (.cells false ((m.store x v).C (.map 8)))).set 8 ((mapO (m.store x v).ms).ren (pR 17 [19] (fun b => b) 17))).set 9 (.cells false ((m.store x v).C (lv.ren (pR 17 [19] (fun b => b) 17))))).set 10 (oL2.ren (pR 17 [19] (fun b => b) 17))).push (o2.ren (pR 17 [19] (fun b => b) 17))⟩ := this
  rw [e8, no_ren h2.o1.2, h2.o2.ren] at this
  exact this
end Go.Proofs.YtchekpapgfojhaaGreatDoor.ctlsFallback
