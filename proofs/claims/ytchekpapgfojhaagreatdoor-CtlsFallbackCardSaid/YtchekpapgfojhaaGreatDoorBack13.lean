/- How a Fallback of the program and of the document runs; a Fallback, plainly. Conditions: those that each theorem names, and no others. -/
import Derived.Test.YtchekpapgfojhaaGreatDoorBack12
namespace Go.Proofs.YtchekpapgfojhaaGreatDoor.ctlsFallback
open Go Go.Mini
/-! ### the plain Switch: what a step does to the memory, and to the count of what is left -/
theorem step_mem {σ : SS} {to : Nat} {lk : Int} {m : PM} {k : Nat} (h : m.Ok k) : (σ.step to lk m).2.Ok (k + 1) := by
  have hl : ∀ a, (m.load a).Ok (k + 1) := fun a => (h.load a).mono (Nat.le_succ k)
  have hc : ∀ a b c n ln2 en2, (σ.swp lk m a b c n ln2 en2).2.Ok (k + 1) := fun a b c n ln2 en2 => h.cas aP σ.w (ofp_lt a b c n)
  unfold SS.step
  split
  · exact hl _
  · exact hc ..
  · exact hc ..
  · exact hc ..
  · exact hc ..
  · exact hc ..
  · exact hl _
theorem swp_ln {σ : SS} {lk : Int} {m : PM} {a b c n ln2 en2 : Nat} (h0 : (σ.swp lk m a b c n ln2 en2).1.ln ≠ 0) : (σ.swp lk m a b c n ln2 en2).1.ln = ln2 ∧ (σ.swp lk m a b c n ln2 en2).1.br = newB n lk := by
  unfold SS.swp at h0 ⊢
  simp only at h0 ⊢
  by_cases hd : m.casd aP σ.w = true
  · rw [if_pos hd]; exact ⟨rfl, rfl⟩
  · rw [if_neg hd] at h0; exact absurd rfl h0
theorem newB_mu {n : Nat} {lk : Int} (hn : n < 281474976710656) (h0 : -9223372036854775808 ≤ lk) (h1 : lk ≤ 40) : (newB n lk).mu ≤ 228 := mu_le (newB_ok hn h0 h1)
theorem bar_mu {L : Nat} (hL : L = 3 ∨ L = 6) {w a b c n : Nat} {wt : Int} {br : Br} {v : Nat} (hB : br.Ok) (h0 : (SS.bar ⟨L, 4, w, wt, a, b, c, n, br⟩ (br.step v)).ln ≠ 0) : (SS.bar ⟨L, 4, w, wt, a, b, c, n, br⟩ (br.step v)).mu < SS.mu ⟨L, 4, w, wt, a, b, c, n, br⟩ := by
  have hk := step_k br v
  have hs := Go.Proofs.YtchekpapgfojhaaGreatDoor.ctlsFallback.step_mu hB v
  unfold SS.bar at h0 ⊢
  simp only at h0 ⊢
  rcases hk with e | e | e
  · rw [if_pos e]
    have := hs e
    rcases hL with rfl | rfl
    · show 233 + (br.step v).1.mu < 233 + br.mu; omega
    · show 2 + (br.step v).1.mu < 2 + br.mu; omega
  · have e0 : ¬ (br.step v).2 = 0 := by omega
    rw [if_neg e0, if_pos e]
    rcases hL with rfl | rfl
    · show 232 < 233 + br.mu; omega
    · show 1 < 2 + br.mu; omega
  · have e0 : ¬ (br.step v).2 = 0 := by omega
    have e1 : ¬ (br.step v).2 = 1 := by omega
    rw [if_neg e0, if_neg e1] at h0 ⊢
    rcases hL with rfl | rfl
    · show 1 < 233 + br.mu; omega
    · exact absurd rfl h0
theorem SS.mu_step {σ : SS} {to : Nat} {lk : Int} (h : σ.Ok to lk) (l0 : -9223372036854775808 ≤ lk) (l1 : lk ≤ 40) {m : PM} (h0 : (σ.step to lk m).1.ln ≠ 0) : (σ.step to lk m).1.mu < σ.mu := by
  obtain ⟨ln, en, w, wt, a, b, c, n, br⟩ := σ
  obtain ⟨⟨k1, k2⟩, k3, k4, k5, k6, k7, k8, k9, k10⟩ := h
  simp only at k1 k2 k3 k4 k5 k6 k7 k8 k9 k10
  subst k3
  have hln : ln = 1 ∨ ln = 2 ∨ ln = 3 ∨ ln = 4 ∨ ln = 5 ∨ ln = 6 ∨ ln = 7 ∨ ln = 8 := by omega
  have nx := nx4_lt (a := a) (b := b) (c := c) (n := n) k6 k7 (show nx4 a b c n = ((nx4 a b c n).1, (nx4 a b c n).2.1, (nx4 a b c n).2.2.1, (nx4 a b c n).2.2.2) from rfl)
  have bg := bg4_lt (a := a) (b := b) (c := c) (n := n) (t := to) k6 k9 (show bg4 a b c n to = ((bg4 a b c n to).1, (bg4 a b c n to).2.1, (bg4 a b c n to).2.2.1, (bg4 a b c n to).2.2.2) from rfl)
  have sw : ∀ {σ : SS} {a b c n ln2 en2 : Nat}, (σ.swp lk m a b c n ln2 en2).1.ln ≠ 0 → n < 281474976710656 → ∃ s : SS, s = (σ.swp lk m a b c n ln2 en2).1 ∧ s.ln = ln2 ∧ s.br.mu ≤ 228 := fun h hn => ⟨_, rfl, (swp_ln h).1, by rw [(swp_ln h).2]; exact newB_mu hn l0 l1⟩
  rcases hln with rfl | rfl | rfl | rfl | rfl | rfl | rfl | rfl
  · have h0 : (SS.one ⟨1, 4, w, wt, a, b, c, n, br⟩ to lk (getW m.ms aP)).ln ≠ 0 := h0
    show (SS.one ⟨1, 4, w, wt, a, b, c, n, br⟩ to lk (getW m.ms aP)).mu < 463
    generalize getW m.ms aP = v at h0
    have hN : v / 65536 % 281474976710656 < 281474976710656 := Nat.mod_lt _ (by omega)
    unfold SS.one at h0 ⊢
    split at h0
    · rename_i e
      rw [if_pos e]
      have := newB_mu hN l0 l1
      show 2 + (newB _ lk).mu < 463
      omega
    · rename_i e
      rw [if_neg e]
      split at h0
      · rename_i e2
        rw [if_pos e2]
        show 462 < 463
        omega
      · exact absurd rfl h0
  · obtain ⟨s, e, e1, e2⟩ := sw (show (SS.swp ⟨2, 4, w, wt, a, b, c, n, br⟩ lk m _ _ _ _ _ _).1.ln ≠ 0 from h0) bg.2.2.2
    show (SS.swp ⟨2, 4, w, wt, a, b, c, n, br⟩ lk m _ _ _ _ _ _).1.mu < 462
    rw [← e]
    unfold SS.mu
    rw [e1]
    show 233 + s.br.mu < 462
    omega
  · exact bar_mu (.inl rfl) (k10 rfl) h0
  · obtain ⟨s, e, e1, e2⟩ := sw (show (SS.swp ⟨4, 4, w, wt, a, b, c, n, br⟩ lk m _ _ _ _ _ _).1.ln ≠ 0 from h0) nx.2.2.2
    show (SS.swp ⟨4, 4, w, wt, a, b, c, n, br⟩ lk m _ _ _ _ _ _).1.mu < 232
    rw [← e]
    unfold SS.mu
    rw [e1]
    show 231 < 232
    omega
  · obtain ⟨s, e, e1, e2⟩ := sw (show (SS.swp ⟨5, 4, w, wt, a, b, c, n, br⟩ lk m _ _ _ _ _ _).1.ln ≠ 0 from h0) nx.2.2.2
    show (SS.swp ⟨5, 4, w, wt, a, b, c, n, br⟩ lk m _ _ _ _ _ _).1.mu < 231
    rw [← e]
    unfold SS.mu
    rw [e1]
    show 2 + s.br.mu < 231
    omega
  · exact bar_mu (.inr rfl) (k10 rfl) h0
  · exact absurd (swp_ln (σ := ⟨7, 4, w, wt, a, b, c, n, br⟩) (show (SS.swp ⟨7, 4, w, wt, a, b, c, n, br⟩ lk m _ _ _ _ _ _).1.ln ≠ 0 from h0)).1 h0
  · exact absurd (swp_ln (σ := ⟨8, 4, w, wt, a, b, c, n, br⟩) (show (SS.swp ⟨8, 4, w, wt, a, b, c, n, br⟩ lk m _ _ _ _ _ _).1.ln ≠ 0 from h0)).1 h0
/-! ### how a Fallback of the program, and of the document, runs -/
theorem fx1_y (v a b c n _ _ _ : Nat) (_ _ : Int) (_ : Bool) (oM oM2 om _ _ _ _ _ oX _ _ _ o13 _ _ _ o15 _ o16 _ oGx _ _ _ _ : AObj) : runX Tryz.prog none_ 60 10 (.call 10 [.ptr 17 0, .ptr 7 0] ⟨⟨[(17, (.cells false [.func (.func 26) [.ptr 17 0] [], ii 0, .bool true, .ptr 19 0, .ptr 11 0])), (19, oGx), (11, oX), (7, oM), (8, om), (13, o13), (15, o15), (16, o16), (0, .cells true wfW), (1, .cells true wfB), (2, .cells true wfP)], 21, none, []⟩, 21⟩) [.call 26 0 2 (iw v) (fun s => s.set 7 oM2), .pure 26 0 3 [(0, wfW)] (.agg [i8 a, i8 b, i8 c, iw n]), .val 26 1 2 (.bool false), .val 26 1 6 (.bool false)] = some ({ e := .ret, ts := [.bool false], s := ⟨⟨[(22, .cells false [i8 a, i8 b, i8 c, iw n]), (17, .cells false [.func (Fn.func 46) [.ptr 17 0] [], ii 0, .bool true, .ptr 19 0, .ptr 11 0]), (19, oGx), (11, oX), (7, oM2), (8, om), (13, o13), (15, o15), (16, o16), (0, .cells true wfW), (1, .cells true wfB), (2, .cells true wfP)], 22, some 17, [17, 7]⟩, 23⟩ }, [], [Qst.snd (Task.call 44 [.ptr 7 0, .agg [i8 3, ii 0, ii 0]] ⟨⟨[(17, .cells false [.func (Fn.func 26) [.ptr 17 0] [], ii 0, .bool true, .ptr 19 0, .ptr 11 0]), (19, oGx), (11, oX), (7, oM), (8, om), (13, o13), (15, o15), (16, o16), (0, .cells true wfW), (1, .cells true wfB), (2, .cells true wfP)], 21, none, []⟩, 22⟩) { e := .ret, ts := [iw v], s := ⟨⟨[(17, .cells false [.func (Fn.func 26) [.ptr 17 0] [], ii 0, .bool true, .ptr 19 0, .ptr 11 0]), (19, oGx), (11, oX), (7, oM2), (8, om), (13, o13), (15, o15), (16, o16), (0, .cells true wfW), (1, .cells true wfB), (2, .cells true wfP)], 21, none, [7]⟩, 22⟩ }, Qst.pure [(0, wfW)] 43 [iw v] (.agg [i8 a, i8 b, i8 c, iw n]), Qst.val (some (.bool (Int.ofNat a != Int.ofNat 0))) (.bool false), Qst.val (some (.bool (Int.ofNat b != Int.ofNat 1))) (.bool false)]) := by kernel_rfl
theorem fx1_n (v a b c n _ _ _ : Nat) (_ _ : Int) (_ : Bool) (oM oM2 om _ _ _ _ _ oX _ _ _ o13 _ _ _ o15 _ o16 _ oGx _ _ _ _ : AObj) : runX Tryz.prog none_ 60 10 (.call 10 [.ptr 17 0, .ptr 7 0] ⟨⟨[(17, (.cells false [.func (.func 26) [.ptr 17 0] [], ii 0, .bool true, .ptr 19 0, .ptr 11 0])), (19, oGx), (11, oX), (7, oM), (8, om), (13, o13), (15, o15), (16, o16), (0, .cells true wfW), (1, .cells true wfB), (2, .cells true wfP)], 21, none, []⟩, 21⟩) [.call 26 0 2 (iw v) (fun s => s.set 7 oM2), .pure 26 0 3 [(0, wfW)] (.agg [i8 a, i8 b, i8 c, iw n]), .val 26 1 2 (.bool true)] = some ({ e := .ret, ts := [.bool true], s := ⟨⟨[(17, .cells false [.nilFunc, ii 4, .bool true, .ptr 19 0, .ptr 11 0]), (19, oGx), (11, oX), (7, oM2), (8, om), (13, o13), (15, o15), (16, o16), (0, .cells true wfW), (1, .cells true wfB), (2, .cells true wfP)], 21, none, [17, 17, 7]⟩, 23⟩ }, [], [Qst.snd (Task.call 44 [.ptr 7 0, .agg [i8 3, ii 0, ii 0]] ⟨⟨[(17, .cells false [.func (Fn.func 26) [.ptr 17 0] [], ii 0, .bool true, .ptr 19 0, .ptr 11 0]), (19, oGx), (11, oX), (7, oM), (8, om), (13, o13), (15, o15), (16, o16), (0, .cells true wfW), (1, .cells true wfB), (2, .cells true wfP)], 21, none, []⟩, 22⟩) { e := .ret, ts := [iw v], s := ⟨⟨[(17, .cells false [.func (Fn.func 26) [.ptr 17 0] [], ii 0, .bool true, .ptr 19 0, .ptr 11 0]), (19, oGx), (11, oX), (7, oM2), (8, om), (13, o13), (15, o15), (16, o16), (0, .cells true wfW), (1, .cells true wfB), (2, .cells true wfP)], 21, none, [7]⟩, 22⟩ }, Qst.pure [(0, wfW)] 43 [iw v] (.agg [i8 a, i8 b, i8 c, iw n]), Qst.val (some (.bool (Int.ofNat a != Int.ofNat 0))) (.bool true)]) := by kernel_rfl
theorem fx1_m (v a b c n _ _ _ : Nat) (_ _ : Int) (_ : Bool) (oM oM2 om _ _ _ _ _ oX _ _ _ o13 _ _ _ o15 _ o16 _ oGx _ _ _ _ : AObj) : runX Tryz.prog none_ 60 10 (.call 10 [.ptr 17 0, .ptr 7 0] ⟨⟨[(17, (.cells false [.func (.func 26) [.ptr 17 0] [], ii 0, .bool true, .ptr 19 0, .ptr 11 0])), (19, oGx), (11, oX), (7, oM), (8, om), (13, o13), (15, o15), (16, o16), (0, .cells true wfW), (1, .cells true wfB), (2, .cells true wfP)], 21, none, []⟩, 21⟩) [.call 26 0 2 (iw v) (fun s => s.set 7 oM2), .pure 26 0 3 [(0, wfW)] (.agg [i8 a, i8 b, i8 c, iw n]), .val 26 1 2 (.bool false), .val 26 1 6 (.bool true)] = some ({ e := .ret, ts := [.bool true], s := ⟨⟨[(17, .cells false [.nilFunc, ii 4, .bool true, .ptr 19 0, .ptr 11 0]), (19, oGx), (11, oX), (7, oM2), (8, om), (13, o13), (15, o15), (16, o16), (0, .cells true wfW), (1, .cells true wfB), (2, .cells true wfP)], 21, none, [17, 17, 7]⟩, 23⟩ }, [], [Qst.snd (Task.call 44 [.ptr 7 0, .agg [i8 3, ii 0, ii 0]] ⟨⟨[(17, .cells false [.func (Fn.func 26) [.ptr 17 0] [], ii 0, .bool true, .ptr 19 0, .ptr 11 0]), (19, oGx), (11, oX), (7, oM), (8, om), (13, o13), (15, o15), (16, o16), (0, .cells true wfW), (1, .cells true wfB), (2, .cells true wfP)], 21, none, []⟩, 22⟩) { e := .ret, ts := [iw v], s := ⟨⟨[(17, .cells false [.func (Fn.func 26) [.ptr 17 0] [], ii 0, .bool true, .ptr 19 0, .ptr 11 0]), (19, oGx), (11, oX), (7, oM2), (8, om), (13, o13), (15, o15), (16, o16), (0, .cells true wfW), (1, .cells true wfB), (2, .cells true wfP)], 21, none, [7]⟩, 22⟩ }, Qst.pure [(0, wfW)] 43 [iw v] (.agg [i8 a, i8 b, i8 c, iw n]), Qst.val (some (.bool (Int.ofNat a != Int.ofNat 0))) (.bool false), Qst.val (some (.bool (Int.ofNat b != Int.ofNat 1))) (.bool true)]) := by kernel_rfl
theorem fx2_1 (_ _ _ _ _ e _ _ : Nat) (_ th : Int) (_ : Bool) (oM oM2 om om2 _ _ _ _ oX _ _ _ o13 _ _ _ o15 _ o16 _ _ _ _ _ _ : AObj) : runX Tryz.prog none_ 60 10 (.call 10 [.ptr 17 0, .ptr 7 0] ⟨⟨[(17, (.cells false [.func (.func 46) [.ptr 17 0] [], ii 0, .bool true, .ptr 19 0, .ptr 11 0])), (19, (.cells false [ii 1, .int .i64 th, iw e])), (11, oX), (7, oM), (8, om), (13, o13), (15, o15), (16, o16), (0, .cells true wfW), (1, .cells true wfB), (2, .cells true wfP)], 21, none, []⟩, 21⟩) [.call 75 6 2 ud (fun s => (s.set 7 oM2).set 8 om2)] = some ({ e := .ret, ts := [.bool false], s := ⟨⟨[(17, .cells false [.func (Fn.func 46) [.ptr 17 0] [], ii 0, .bool true, .ptr 19 0, .ptr 11 0]), (19, .cells false [ii 2, .int .i64 th, iw e]), (11, oX), (7, oM2), (8, om2), (13, o13), (15, o15), (16, o16), (0, .cells true wfW), (1, .cells true wfB), (2, .cells true wfP)], 21, none, [19, 8, 7]⟩, 23⟩ }, [], [Qst.snd (Task.call 29 [.ptr 7 0, .agg [i8 8, .int .i64 th, ii 6], iw 18446744073709551615] ⟨⟨[(22, .cells false [i8 2, ii 0, ii 0]), (21, .cells false [i8 8, .int .i64 th, ii 6]), (17, .cells false [.func (Fn.func 46) [.ptr 17 0] [], ii 0, .bool true, .ptr 19 0, .ptr 11 0]), (19, .cells false [ii 1, .int .i64 th, iw e]), (11, oX), (7, oM), (8, om), (13, o13), (15, o15), (16, o16), (0, .cells true wfW), (1, .cells true wfB), (2, .cells true wfP)], 23, none, [22, 21]⟩, 23⟩) { e := .ret, ts := [ud], s := ⟨⟨[(22, .cells false [i8 2, ii 0, ii 0]), (21, .cells false [i8 8, .int .i64 th, ii 6]), (17, .cells false [.func (Fn.func 46) [.ptr 17 0] [], ii 0, .bool true, .ptr 19 0, .ptr 11 0]), (19, .cells false [ii 1, .int .i64 th, iw e]), (11, oX), (7, oM2), (8, om2), (13, o13), (15, o15), (16, o16), (0, .cells true wfW), (1, .cells true wfB), (2, .cells true wfP)], 23, none, [8, 7, 22, 21]⟩, 23⟩ }]) := by kernel_rfl
theorem fx2_2 (v _ _ _ _ e _ _ : Nat) (_ th : Int) (_ : Bool) (oM oM2 om _ _ _ _ _ oX _ _ _ o13 _ _ _ o15 _ o16 _ _ _ _ _ _ : AObj) : runX Tryz.prog none_ 60 10 (.call 10 [.ptr 17 0, .ptr 7 0] ⟨⟨[(17, (.cells false [.func (.func 46) [.ptr 17 0] [], ii 0, .bool true, .ptr 19 0, .ptr 11 0])), (19, (.cells false [ii 2, .int .i64 th, iw e])), (11, oX), (7, oM), (8, om), (13, o13), (15, o15), (16, o16), (0, .cells true wfW), (1, .cells true wfB), (2, .cells true wfP)], 21, none, []⟩, 21⟩) [.call 75 8 3 (iw v) (fun s => s.set 7 oM2)] = some ({ e := .ret, ts := [.bool false], s := ⟨⟨[(17, .cells false [.func (Fn.func 46) [.ptr 17 0] [], ii 0, .bool true, .ptr 19 0, .ptr 11 0]), (19, .cells false [ii 3, .int .i64 th, iw v]), (11, oX), (7, oM2), (8, om), (13, o13), (15, o15), (16, o16), (0, .cells true wfW), (1, .cells true wfB), (2, .cells true wfP)], 21, none, [19, 19, 7]⟩, 23⟩ }, [], [Qst.snd (Task.call 44 [.ptr 7 0, .agg [i8 2, ii 0, ii 0]] ⟨⟨[(22, .cells false [i8 2, ii 0, ii 0]), (21, .cells false [i8 8, .int .i64 th, ii 6]), (17, .cells false [.func (Fn.func 46) [.ptr 17 0] [], ii 0, .bool true, .ptr 19 0, .ptr 11 0]), (19, .cells false [ii 2, .int .i64 th, iw e]), (11, oX), (7, oM), (8, om), (13, o13), (15, o15), (16, o16), (0, .cells true wfW), (1, .cells true wfB), (2, .cells true wfP)], 23, none, [22, 21]⟩, 23⟩) { e := .ret, ts := [iw v], s := ⟨⟨[(22, .cells false [i8 2, ii 0, ii 0]), (21, .cells false [i8 8, .int .i64 th, ii 6]), (17, .cells false [.func (Fn.func 46) [.ptr 17 0] [], ii 0, .bool true, .ptr 19 0, .ptr 11 0]), (19, .cells false [ii 2, .int .i64 th, iw e]), (11, oX), (7, oM2), (8, om), (13, o13), (15, o15), (16, o16), (0, .cells true wfW), (1, .cells true wfB), (2, .cells true wfP)], 23, none, [7, 22, 21]⟩, 23⟩ }]) := by kernel_rfl
theorem fx2_3 (_ _ _ _ _ e e1 _ : Nat) (_ th : Int) (_ : Bool) (oM oM2 om om2 _ _ _ _ oX _ _ _ o13 _ _ _ o15 _ o16 _ _ _ _ _ _ : AObj) : runX Tryz.prog none_ 60 10 (.call 10 [.ptr 17 0, .ptr 7 0] ⟨⟨[(17, (.cells false [.func (.func 46) [.ptr 17 0] [], ii 0, .bool true, .ptr 19 0, .ptr 11 0])), (19, (.cells false [ii 3, .int .i64 th, iw e])), (11, oX), (7, oM), (8, om), (13, o13), (15, o15), (16, o16), (0, .cells true wfW), (1, .cells true wfB), (2, .cells true wfP)], 21, none, []⟩, 21⟩) [.val 75 10 6 (iw e1), .call 75 10 7 ud (fun s => (s.set 7 oM2).set 8 om2)] = some ({ e := .ret, ts := [.bool false], s := ⟨⟨[(17, .cells false [.func (Fn.func 46) [.ptr 17 0] [], ii 0, .bool true, .ptr 19 0, .ptr 11 0]), (19, .cells false [ii 4, .int .i64 th, iw e]), (11, oX), (7, oM2), (8, om2), (13, o13), (15, o15), (16, o16), (0, .cells true wfW), (1, .cells true wfB), (2, .cells true wfP)], 21, none, [19, 8, 7]⟩, 23⟩ }, [], [Qst.val (some (.int .u64 (Int.ofNat ((e + 1) % ((2 : Int) ^ IntKind.u64.bits).natAbs)))) (iw e1), Qst.snd (Task.call 29 [.ptr 7 0, .agg [i8 8, .int .i64 th, ii 6], iw e1] ⟨⟨[(22, .cells false [i8 2, ii 0, ii 0]), (21, .cells false [i8 8, .int .i64 th, ii 6]), (17, .cells false [.func (Fn.func 46) [.ptr 17 0] [], ii 0, .bool true, .ptr 19 0, .ptr 11 0]), (19, .cells false [ii 3, .int .i64 th, iw e]), (11, oX), (7, oM), (8, om), (13, o13), (15, o15), (16, o16), (0, .cells true wfW), (1, .cells true wfB), (2, .cells true wfP)], 23, none, [22, 21]⟩, 23⟩) { e := .ret, ts := [ud], s := ⟨⟨[(22, .cells false [i8 2, ii 0, ii 0]), (21, .cells false [i8 8, .int .i64 th, ii 6]), (17, .cells false [.func (Fn.func 46) [.ptr 17 0] [], ii 0, .bool true, .ptr 19 0, .ptr 11 0]), (19, .cells false [ii 3, .int .i64 th, iw e]), (11, oX), (7, oM2), (8, om2), (13, o13), (15, o15), (16, o16), (0, .cells true wfW), (1, .cells true wfB), (2, .cells true wfP)], 23, none, [8, 7, 22, 21]⟩, 23⟩ }]) := by kernel_rfl
theorem fx2_4 (_ _ _ _ _ e e1 _ : Nat) (_ th : Int) (cd : Bool) (oM oM2 om om2 _ _ _ _ oX _ _ _ o13 _ _ _ o15 _ o16 _ _ _ _ _ _ : AObj) : runX Tryz.prog none_ 60 10 (.call 10 [.ptr 17 0, .ptr 7 0] ⟨⟨[(17, (.cells false [.func (.func 46) [.ptr 17 0] [], ii 0, .bool true, .ptr 19 0, .ptr 11 0])), (19, (.cells false [ii 4, .int .i64 th, iw e])), (11, oX), (7, oM), (8, om), (13, o13), (15, o15), (16, o16), (0, .cells true wfW), (1, .cells true wfB), (2, .cells true wfP)], 21, none, []⟩, 21⟩) [.val 75 12 10 (iw e1), .call 75 12 11 (.bool cd) (fun s => (s.set 7 oM2).set 8 om2)] = some ({ e := .ret, ts := [.bool false], s := ⟨⟨[(17, .cells false [.func (Fn.func 76) [.ptr 17 0] [], ii 0, .bool true, .ptr 19 0, .ptr 11 0]), (19, .cells false [ii 0, .int .i64 th, iw e]), (11, oX), (7, oM2), (8, om2), (13, o13), (15, o15), (16, o16), (0, .cells true wfW), (1, .cells true wfB), (2, .cells true wfP)], 21, some 17, [17, 19, 8, 7]⟩, 23⟩ }, [], [Qst.val (some (.int .u64 (Int.ofNat ((e + 1) % ((2 : Int) ^ IntKind.u64.bits).natAbs)))) (iw e1), Qst.snd (Task.call 94 [.ptr 7 0, .agg [i8 2, ii 0, ii 0], iw e, iw e1] ⟨⟨[(22, .cells false [i8 2, ii 0, ii 0]), (21, .cells false [i8 8, .int .i64 th, ii 6]), (17, .cells false [.func (Fn.func 46) [.ptr 17 0] [], ii 0, .bool true, .ptr 19 0, .ptr 11 0]), (19, .cells false [ii 4, .int .i64 th, iw e]), (11, oX), (7, oM), (8, om), (13, o13), (15, o15), (16, o16), (0, .cells true wfW), (1, .cells true wfB), (2, .cells true wfP)], 23, none, [22, 21]⟩, 23⟩) { e := .ret, ts := [.bool cd], s := ⟨⟨[(22, .cells false [i8 2, ii 0, ii 0]), (21, .cells false [i8 8, .int .i64 th, ii 6]), (17, .cells false [.func (Fn.func 46) [.ptr 17 0] [], ii 0, .bool true, .ptr 19 0, .ptr 11 0]), (19, .cells false [ii 4, .int .i64 th, iw e]), (11, oX), (7, oM2), (8, om2), (13, o13), (15, o15), (16, o16), (0, .cells true wfW), (1, .cells true wfB), (2, .cells true wfP)], 23, none, [8, 7, 22, 21]⟩, 23⟩ }]) := by kernel_rfl
theorem fx3_c (_ _ _ _ _ _ _ _ : Nat) (_ _ : Int) (_ : Bool) (oM oM2 om om2 _ _ _ _ oX oX2 _ _ o13 o13b _ _ o15 o15b o16 o16b oGx _ pA pB pC : AObj) : runX Tryz.prog none_ 60 10 (.call 10 [.ptr 17 0, .ptr 7 0] ⟨⟨[(17, (.cells false [.func (.func 76) [.ptr 17 0] [], ii 0, .bool true, .ptr 19 0, .ptr 11 0])), (19, oGx), (11, oX), (7, oM), (8, om), (13, o13), (15, o15), (16, o16), (0, .cells true wfW), (1, .cells true wfB), (2, .cells true wfP)], 21, none, []⟩, 21⟩) [.call 76 0 5 (.bool false) (fun s => noteEsc (((((((((s.set 11 oX2).set 7 oM2).set 8 om2).set 13 o13b).set 15 o15b).set 16 o16b).push pA).push pB).push pC) 11 true)] = some ({ e := .ret, ts := [.bool false], s := ⟨⟨[(23, pC), (22, pB), (21, pA), (17, .cells false [.func (Fn.func 76) [.ptr 17 0] [], ii 0, .bool true, .ptr 19 0, .ptr 11 0]), (19, oGx), (11, oX2), (7, oM2), (8, om2), (13, o13b), (15, o15b), (16, o16b), (0, .cells true wfW), (1, .cells true wfB), (2, .cells true wfP)], 24, some 11, [16, 15, 13, 8, 7, 11]⟩, 24⟩ }, [], [Qst.snd (Task.call 15 [.ptr 11 0, .ptr 7 0] ⟨⟨[(17, .cells false [.func (Fn.func 76) [.ptr 17 0] [], ii 0, .bool true, .ptr 19 0, .ptr 11 0]), (19, oGx), (11, oX), (7, oM), (8, om), (13, o13), (15, o15), (16, o16), (0, .cells true wfW), (1, .cells true wfB), (2, .cells true wfP)], 21, none, []⟩, 21⟩) { e := .ret, ts := [.bool false], s := ⟨⟨[(23, pC), (22, pB), (21, pA), (17, .cells false [.func (Fn.func 76) [.ptr 17 0] [], ii 0, .bool true, .ptr 19 0, .ptr 11 0]), (19, oGx), (11, oX2), (7, oM2), (8, om2), (13, o13b), (15, o15b), (16, o16b), (0, .cells true wfW), (1, .cells true wfB), (2, .cells true wfP)], 24, some 11, [16, 15, 13, 8, 7, 11]⟩, 24⟩ }]) := by kernel_rfl
theorem fx3_o (_ _ _ _ _ _ _ en : Nat) (_ _ : Int) (_ : Bool) (oM oM2 om om2 _ _ _ _ oX oX2 _ _ o13 o13b _ _ o15 o15b o16 o16b oGx _ pA pB pC : AObj) : runX Tryz.prog none_ 60 10 (.call 10 [.ptr 17 0, .ptr 7 0] ⟨⟨[(17, (.cells false [.func (.func 76) [.ptr 17 0] [], ii 0, .bool true, .ptr 19 0, .ptr 11 0])), (19, oGx), (11, oX), (7, oM), (8, om), (13, o13), (15, o15), (16, o16), (0, .cells true wfW), (1, .cells true wfB), (2, .cells true wfP)], 21, none, []⟩, 21⟩) [.call 76 0 5 (.bool true) (fun s => noteEsc (((((((((s.set 11 oX2).set 7 oM2).set 8 om2).set 13 o13b).set 15 o15b).set 16 o16b).push pA).push pB).push pC) 11 true), .call 76 1 7 (ii en) id] = some ({ e := .ret, ts := [.bool true], s := ⟨⟨[(23, pC), (22, pB), (21, pA), (17, .cells false [.nilFunc, ii en, .bool true, .ptr 19 0, .ptr 11 0]), (19, oGx), (11, oX2), (7, oM2), (8, om2), (13, o13b), (15, o15b), (16, o16b), (0, .cells true wfW), (1, .cells true wfB), (2, .cells true wfP)], 24, some 11, [17, 17, 16, 15, 13, 8, 7, 11]⟩, 24⟩ }, [], [Qst.snd (Task.call 15 [.ptr 11 0, .ptr 7 0] ⟨⟨[(17, .cells false [.func (Fn.func 76) [.ptr 17 0] [], ii 0, .bool true, .ptr 19 0, .ptr 11 0]), (19, oGx), (11, oX), (7, oM), (8, om), (13, o13), (15, o15), (16, o16), (0, .cells true wfW), (1, .cells true wfB), (2, .cells true wfP)], 21, none, []⟩, 21⟩) { e := .ret, ts := [.bool true], s := ⟨⟨[(23, pC), (22, pB), (21, pA), (17, .cells false [.func (Fn.func 76) [.ptr 17 0] [], ii 0, .bool true, .ptr 19 0, .ptr 11 0]), (19, oGx), (11, oX2), (7, oM2), (8, om2), (13, o13b), (15, o15b), (16, o16b), (0, .cells true wfW), (1, .cells true wfB), (2, .cells true wfP)], 24, some 11, [16, 15, 13, 8, 7, 11]⟩, 24⟩ }, Qst.snd (Task.call 16 [.ptr 11 0] ⟨⟨[(23, pC), (22, pB), (21, pA), (17, .cells false [.func (Fn.func 76) [.ptr 17 0] [], ii 0, .bool true, .ptr 19 0, .ptr 11 0]), (19, oGx), (11, oX2), (7, oM2), (8, om2), (13, o13b), (15, o15b), (16, o16b), (0, .cells true wfW), (1, .cells true wfB), (2, .cells true wfP)], 24, some 11, [16, 15, 13, 8, 7, 11]⟩, 24⟩) { e := .ret, ts := [ii en], s := ⟨⟨[(23, pC), (22, pB), (21, pA), (17, .cells false [.func (Fn.func 76) [.ptr 17 0] [], ii 0, .bool true, .ptr 19 0, .ptr 11 0]), (19, oGx), (11, oX2), (7, oM2), (8, om2), (13, o13b), (15, o15b), (16, o16b), (0, .cells true wfW), (1, .cells true wfB), (2, .cells true wfP)], 24, some 11, [16, 15, 13, 8, 7, 11]⟩, 24⟩ }]) := by kernel_rfl
theorem fy1_y (v a b c n _ _ _ : Nat) (_ _ : Int) (_ : Bool) (_ _ _ _ oR oR2 oL _ _ _ oY _ _ _ o14 _ _ _ _ _ _ oGy _ _ _ : AObj) : runX Tryz.prog none_ 60 9 (.call 9 [.ptr 18 0, .ptr 9 0] ⟨⟨[(18, (.cells false [ii 1, ii 4, .ptr 12 0, .ptr 20 0])), (20, oGy), (12, oY), (9, oR), (10, oL), (14, o14), (0, .cells true wfW), (1, .cells true wfB), (2, .cells true wfP)], 21, none, []⟩, 21⟩) [.call 9 2 2 (iw v) (fun s => s.set 9 oR2), .pure 9 2 3 [] (.agg [i8 a, i8 b, i8 c, iw n]), .val 9 4 2 (.bool false), .val 9 4 6 (.bool false)] = some ({ e := .ret, ts := [ud], s := ⟨⟨[(18, .cells false [ii 2, ii 4, .ptr 12 0, .ptr 20 0]), (20, oGy), (12, oY), (9, oR2), (10, oL), (14, o14), (0, .cells true wfW), (1, .cells true wfB), (2, .cells true wfP)], 21, none, [18, 9]⟩, 22⟩ }, [], [Qst.snd (Task.call 32 [.ptr 9 0, .agg [i8 3, ii 0, ii 0]] ⟨⟨[(18, .cells false [ii 1, ii 4, .ptr 12 0, .ptr 20 0]), (20, oGy), (12, oY), (9, oR), (10, oL), (14, o14), (0, .cells true wfW), (1, .cells true wfB), (2, .cells true wfP)], 21, none, []⟩, 21⟩) { e := .ret, ts := [iw v], s := ⟨⟨[(18, .cells false [ii 1, ii 4, .ptr 12 0, .ptr 20 0]), (20, oGy), (12, oY), (9, oR2), (10, oL), (14, o14), (0, .cells true wfW), (1, .cells true wfB), (2, .cells true wfP)], 21, none, [9]⟩, 21⟩ }, Qst.pure [] 31 [iw v] (.agg [i8 a, i8 b, i8 c, iw n]), Qst.val (some (.bool (Int.ofNat a != Int.ofNat 0))) (.bool false), Qst.val (some (.bool (Int.ofNat b != Int.ofNat 1))) (.bool false)]) := by kernel_rfl
theorem fy1_n (v a b c n _ _ _ : Nat) (_ _ : Int) (_ : Bool) (_ _ _ _ oR oR2 oL _ _ _ oY _ _ _ o14 _ _ _ _ _ _ oGy _ _ _ : AObj) : runX Tryz.prog none_ 60 9 (.call 9 [.ptr 18 0, .ptr 9 0] ⟨⟨[(18, (.cells false [ii 1, ii 4, .ptr 12 0, .ptr 20 0])), (20, oGy), (12, oY), (9, oR), (10, oL), (14, o14), (0, .cells true wfW), (1, .cells true wfB), (2, .cells true wfP)], 21, none, []⟩, 21⟩) [.call 9 2 2 (iw v) (fun s => s.set 9 oR2), .pure 9 2 3 [] (.agg [i8 a, i8 b, i8 c, iw n]), .val 9 4 2 (.bool true)] = some ({ e := .ret, ts := [ud], s := ⟨⟨[(18, .cells false [ii 0, ii 4, .ptr 12 0, .ptr 20 0]), (20, oGy), (12, oY), (9, oR2), (10, oL), (14, o14), (0, .cells true wfW), (1, .cells true wfB), (2, .cells true wfP)], 21, none, [18, 18, 9]⟩, 22⟩ }, [], [Qst.snd (Task.call 32 [.ptr 9 0, .agg [i8 3, ii 0, ii 0]] ⟨⟨[(18, .cells false [ii 1, ii 4, .ptr 12 0, .ptr 20 0]), (20, oGy), (12, oY), (9, oR), (10, oL), (14, o14), (0, .cells true wfW), (1, .cells true wfB), (2, .cells true wfP)], 21, none, []⟩, 21⟩) { e := .ret, ts := [iw v], s := ⟨⟨[(18, .cells false [ii 1, ii 4, .ptr 12 0, .ptr 20 0]), (20, oGy), (12, oY), (9, oR2), (10, oL), (14, o14), (0, .cells true wfW), (1, .cells true wfB), (2, .cells true wfP)], 21, none, [9]⟩, 21⟩ }, Qst.pure [] 31 [iw v] (.agg [i8 a, i8 b, i8 c, iw n]), Qst.val (some (.bool (Int.ofNat a != Int.ofNat 0))) (.bool true)]) := by kernel_rfl
theorem fy1_m (v a b c n _ _ _ : Nat) (_ _ : Int) (_ : Bool) (_ _ _ _ oR oR2 oL _ _ _ oY _ _ _ o14 _ _ _ _ _ _ oGy _ _ _ : AObj) : runX Tryz.prog none_ 60 9 (.call 9 [.ptr 18 0, .ptr 9 0] ⟨⟨[(18, (.cells false [ii 1, ii 4, .ptr 12 0, .ptr 20 0])), (20, oGy), (12, oY), (9, oR), (10, oL), (14, o14), (0, .cells true wfW), (1, .cells true wfB), (2, .cells true wfP)], 21, none, []⟩, 21⟩) [.call 9 2 2 (iw v) (fun s => s.set 9 oR2), .pure 9 2 3 [] (.agg [i8 a, i8 b, i8 c, iw n]), .val 9 4 2 (.bool false), .val 9 4 6 (.bool true)] = some ({ e := .ret, ts := [ud], s := ⟨⟨[(18, .cells false [ii 0, ii 4, .ptr 12 0, .ptr 20 0]), (20, oGy), (12, oY), (9, oR2), (10, oL), (14, o14), (0, .cells true wfW), (1, .cells true wfB), (2, .cells true wfP)], 21, none, [18, 18, 9]⟩, 22⟩ }, [], [Qst.snd (Task.call 32 [.ptr 9 0, .agg [i8 3, ii 0, ii 0]] ⟨⟨[(18, .cells false [ii 1, ii 4, .ptr 12 0, .ptr 20 0]), (20, oGy), (12, oY), (9, oR), (10, oL), (14, o14), (0, .cells true wfW), (1, .cells true wfB), (2, .cells true wfP)], 21, none, []⟩, 21⟩) { e := .ret, ts := [iw v], s := ⟨⟨[(18, .cells false [ii 1, ii 4, .ptr 12 0, .ptr 20 0]), (20, oGy), (12, oY), (9, oR2), (10, oL), (14, o14), (0, .cells true wfW), (1, .cells true wfB), (2, .cells true wfP)], 21, none, [9]⟩, 21⟩ }, Qst.pure [] 31 [iw v] (.agg [i8 a, i8 b, i8 c, iw n]), Qst.val (some (.bool (Int.ofNat a != Int.ofNat 0))) (.bool false), Qst.val (some (.bool (Int.ofNat b != Int.ofNat 1))) (.bool true)]) := by kernel_rfl
theorem fy2_1 (_ _ _ _ _ e _ _ : Nat) (_ th : Int) (_ : Bool) (_ _ _ _ oR oR2 oL oL2 _ _ oY _ _ _ o14 _ _ _ _ _ _ _ pA _ _ : AObj) : runX Tryz.prog none_ 60 9 (.call 9 [.ptr 18 0, .ptr 9 0] ⟨⟨[(18, (.cells false [ii 2, ii 4, .ptr 12 0, .ptr 20 0])), (20, (.cells false [.int .i64 th, ii 1, iw e])), (12, oY), (9, oR), (10, oL), (14, o14), (0, .cells true wfW), (1, .cells true wfB), (2, .cells true wfP)], 21, none, []⟩, 21⟩) [.call 33 7 2 ud (fun s => noteEsc (((s.set 9 oR2).set 10 oL2).push pA) 9 true)] = some ({ e := .ret, ts := [ud], s := ⟨⟨[(23, pA), (22, .cells false [i8 2, ii 0, ii 0]), (21, .cells false [i8 8, .int .i64 th, ii 6]), (18, .cells false [ii 2, ii 4, .ptr 12 0, .ptr 20 0]), (20, .cells false [.int .i64 th, ii 2, iw e]), (12, oY), (9, oR2), (10, oL2), (14, o14), (0, .cells true wfW), (1, .cells true wfB), (2, .cells true wfP)], 24, some 9, [20, 10, 9]⟩, 24⟩ }, [], [Qst.snd (Task.call 30 [.ptr 9 0, .agg [i8 8, .int .i64 th, ii 6], iw 18446744073709551615] ⟨⟨[(22, .cells false [i8 2, ii 0, ii 0]), (21, .cells false [i8 8, .int .i64 th, ii 6]), (18, .cells false [ii 2, ii 4, .ptr 12 0, .ptr 20 0]), (20, .cells false [.int .i64 th, ii 1, iw e]), (12, oY), (9, oR), (10, oL), (14, o14), (0, .cells true wfW), (1, .cells true wfB), (2, .cells true wfP)], 23, none, [22, 21]⟩, 23⟩) { e := .ret, ts := [ud], s := ⟨⟨[(23, pA), (22, .cells false [i8 2, ii 0, ii 0]), (21, .cells false [i8 8, .int .i64 th, ii 6]), (18, .cells false [ii 2, ii 4, .ptr 12 0, .ptr 20 0]), (20, .cells false [.int .i64 th, ii 1, iw e]), (12, oY), (9, oR2), (10, oL2), (14, o14), (0, .cells true wfW), (1, .cells true wfB), (2, .cells true wfP)], 24, some 9, [10, 9, 22, 21]⟩, 24⟩ }]) := by kernel_rfl
theorem fy2_2 (v _ _ _ _ e _ _ : Nat) (_ th : Int) (_ : Bool) (_ _ _ _ oR oR2 oL _ _ _ oY _ _ _ o14 _ _ _ _ _ _ _ _ _ _ : AObj) : runX Tryz.prog none_ 60 9 (.call 9 [.ptr 18 0, .ptr 9 0] ⟨⟨[(18, (.cells false [ii 2, ii 4, .ptr 12 0, .ptr 20 0])), (20, (.cells false [.int .i64 th, ii 2, iw e])), (12, oY), (9, oR), (10, oL), (14, o14), (0, .cells true wfW), (1, .cells true wfB), (2, .cells true wfP)], 21, none, []⟩, 21⟩) [.call 33 9 3 (iw v) (fun s => s.set 9 oR2)] = some ({ e := .ret, ts := [ud], s := ⟨⟨[(18, .cells false [ii 2, ii 4, .ptr 12 0, .ptr 20 0]), (20, .cells false [.int .i64 th, ii 3, iw v]), (12, oY), (9, oR2), (10, oL), (14, o14), (0, .cells true wfW), (1, .cells true wfB), (2, .cells true wfP)], 21, none, [20, 20, 9]⟩, 23⟩ }, [], [Qst.snd (Task.call 32 [.ptr 9 0, .agg [i8 2, ii 0, ii 0]] ⟨⟨[(22, .cells false [i8 2, ii 0, ii 0]), (21, .cells false [i8 8, .int .i64 th, ii 6]), (18, .cells false [ii 2, ii 4, .ptr 12 0, .ptr 20 0]), (20, .cells false [.int .i64 th, ii 2, iw e]), (12, oY), (9, oR), (10, oL), (14, o14), (0, .cells true wfW), (1, .cells true wfB), (2, .cells true wfP)], 23, none, [22, 21]⟩, 23⟩) { e := .ret, ts := [iw v], s := ⟨⟨[(22, .cells false [i8 2, ii 0, ii 0]), (21, .cells false [i8 8, .int .i64 th, ii 6]), (18, .cells false [ii 2, ii 4, .ptr 12 0, .ptr 20 0]), (20, .cells false [.int .i64 th, ii 2, iw e]), (12, oY), (9, oR2), (10, oL), (14, o14), (0, .cells true wfW), (1, .cells true wfB), (2, .cells true wfP)], 23, none, [9, 22, 21]⟩, 23⟩ }]) := by kernel_rfl
theorem fy2_3 (_ _ _ _ _ e e1 _ : Nat) (_ th : Int) (_ : Bool) (_ _ _ _ oR oR2 oL oL2 _ _ oY _ _ _ o14 _ _ _ _ _ _ _ pA _ _ : AObj) : runX Tryz.prog none_ 60 9 (.call 9 [.ptr 18 0, .ptr 9 0] ⟨⟨[(18, (.cells false [ii 2, ii 4, .ptr 12 0, .ptr 20 0])), (20, (.cells false [.int .i64 th, ii 3, iw e])), (12, oY), (9, oR), (10, oL), (14, o14), (0, .cells true wfW), (1, .cells true wfB), (2, .cells true wfP)], 21, none, []⟩, 21⟩) [.val 33 11 6 (iw e1), .call 33 11 7 ud (fun s => noteEsc (((s.set 9 oR2).set 10 oL2).push pA) 9 true)] = some ({ e := .ret, ts := [ud], s := ⟨⟨[(23, pA), (22, .cells false [i8 2, ii 0, ii 0]), (21, .cells false [i8 8, .int .i64 th, ii 6]), (18, .cells false [ii 2, ii 4, .ptr 12 0, .ptr 20 0]), (20, .cells false [.int .i64 th, ii 4, iw e]), (12, oY), (9, oR2), (10, oL2), (14, o14), (0, .cells true wfW), (1, .cells true wfB), (2, .cells true wfP)], 24, some 9, [20, 10, 9]⟩, 24⟩ }, [], [Qst.val (some (.int .u64 (Int.ofNat ((e + 1) % ((2 : Int) ^ IntKind.u64.bits).natAbs)))) (iw e1), Qst.snd (Task.call 30 [.ptr 9 0, .agg [i8 8, .int .i64 th, ii 6], iw e1] ⟨⟨[(22, .cells false [i8 2, ii 0, ii 0]), (21, .cells false [i8 8, .int .i64 th, ii 6]), (18, .cells false [ii 2, ii 4, .ptr 12 0, .ptr 20 0]), (20, .cells false [.int .i64 th, ii 3, iw e]), (12, oY), (9, oR), (10, oL), (14, o14), (0, .cells true wfW), (1, .cells true wfB), (2, .cells true wfP)], 23, none, [22, 21]⟩, 23⟩) { e := .ret, ts := [ud], s := ⟨⟨[(23, pA), (22, .cells false [i8 2, ii 0, ii 0]), (21, .cells false [i8 8, .int .i64 th, ii 6]), (18, .cells false [ii 2, ii 4, .ptr 12 0, .ptr 20 0]), (20, .cells false [.int .i64 th, ii 3, iw e]), (12, oY), (9, oR2), (10, oL2), (14, o14), (0, .cells true wfW), (1, .cells true wfB), (2, .cells true wfP)], 24, some 9, [10, 9, 22, 21]⟩, 24⟩ }]) := by kernel_rfl
theorem fy2_4 (_ _ _ _ _ e e1 _ : Nat) (_ th : Int) (cd : Bool) (_ _ _ _ oR oR2 oL oL2 _ _ oY _ _ _ o14 _ _ _ _ _ _ _ pA _ _ : AObj) : runX Tryz.prog none_ 60 9 (.call 9 [.ptr 18 0, .ptr 9 0] ⟨⟨[(18, (.cells false [ii 2, ii 4, .ptr 12 0, .ptr 20 0])), (20, (.cells false [.int .i64 th, ii 4, iw e])), (12, oY), (9, oR), (10, oL), (14, o14), (0, .cells true wfW), (1, .cells true wfB), (2, .cells true wfP)], 21, none, []⟩, 21⟩) [.val 33 3 10 (iw e1), .call 33 3 11 (.bool cd) (fun s => noteEsc (((s.set 9 oR2).set 10 oL2).push pA) 9 true)] = some ({ e := .ret, ts := [ud], s := ⟨⟨[(23, pA), (22, .cells false [i8 2, ii 0, ii 0]), (21, .cells false [i8 8, .int .i64 th, ii 6]), (18, .cells false [ii 3, ii 4, .ptr 12 0, .ptr 20 0]), (20, .cells false [.int .i64 th, ii 0, iw e]), (12, oY), (9, oR2), (10, oL2), (14, o14), (0, .cells true wfW), (1, .cells true wfB), (2, .cells true wfP)], 24, some 9, [18, 20, 10, 9]⟩, 24⟩ }, [], [Qst.val (some (.int .u64 (Int.ofNat ((e + 1) % ((2 : Int) ^ IntKind.u64.bits).natAbs)))) (iw e1), Qst.snd (Task.call 52 [.ptr 9 0, .agg [i8 2, ii 0, ii 0], iw e, iw e1] ⟨⟨[(22, .cells false [i8 2, ii 0, ii 0]), (21, .cells false [i8 8, .int .i64 th, ii 6]), (18, .cells false [ii 2, ii 4, .ptr 12 0, .ptr 20 0]), (20, .cells false [.int .i64 th, ii 4, iw e]), (12, oY), (9, oR), (10, oL), (14, o14), (0, .cells true wfW), (1, .cells true wfB), (2, .cells true wfP)], 23, none, [22, 21]⟩, 23⟩) { e := .ret, ts := [.bool cd], s := ⟨⟨[(23, pA), (22, .cells false [i8 2, ii 0, ii 0]), (21, .cells false [i8 8, .int .i64 th, ii 6]), (18, .cells false [ii 2, ii 4, .ptr 12 0, .ptr 20 0]), (20, .cells false [.int .i64 th, ii 4, iw e]), (12, oY), (9, oR2), (10, oL2), (14, o14), (0, .cells true wfW), (1, .cells true wfB), (2, .cells true wfP)], 24, some 9, [10, 9, 22, 21]⟩, 24⟩ }]) := by kernel_rfl
theorem fy3_c (v _ _ _ _ _ _ en : Nat) (xe _ : Int) (_ : Bool) (_ _ _ _ oR oR2 oL oL2 _ _ oY _ _ _ o14 o14b _ _ _ _ _ oGy pA pB _ : AObj) (x3 x4 x5 x6 x7 x8 x9 x10 : AV) : runX Tryz.prog none_ 60 9 (.call 9 [.ptr 18 0, .ptr 9 0] ⟨⟨[(18, (.cells false [ii 3, ii 4, .ptr 12 0, .ptr 20 0])), (20, oGy), (12, oY), (9, oR), (10, oL), (14, o14), (0, .cells true wfW), (1, .cells true wfB), (2, .cells true wfP)], 21, none, []⟩, 21⟩) [.call 9 11 5 ud (fun s => noteEsc ((((((s.set 12 (.cells false [ii v, ii en, .int .i64 xe, x3, x4, x5, x6, x7, x8, x9, x10])).set 9 oR2).set 10 oL2).set 14 o14b).push pA).push pB) 9 true), .val 9 12 7 (.bool false)] = some ({ e := .ret, ts := [ud], s := ⟨⟨[(22, pB), (21, pA), (18, .cells false [ii 3, ii 4, .ptr 12 0, .ptr 20 0]), (20, oGy), (12, .cells false [ii v, ii en, .int .i64 xe, x3, x4, x5, x6, x7, x8, x9, x10]), (9, oR2), (10, oL2), (14, o14b), (0, .cells true wfW), (1, .cells true wfB), (2, .cells true wfP)], 23, some 9, [14, 10, 9, 12]⟩, 23⟩ }, [], [Qst.snd (Task.call 34 [.ptr 12 0, .ptr 9 0] ⟨⟨[(18, .cells false [ii 3, ii 4, .ptr 12 0, .ptr 20 0]), (20, oGy), (12, oY), (9, oR), (10, oL), (14, o14), (0, .cells true wfW), (1, .cells true wfB), (2, .cells true wfP)], 21, none, []⟩, 21⟩) { e := .ret, ts := [ud], s := ⟨⟨[(22, pB), (21, pA), (18, .cells false [ii 3, ii 4, .ptr 12 0, .ptr 20 0]), (20, oGy), (12, .cells false [ii v, ii en, .int .i64 xe, x3, x4, x5, x6, x7, x8, x9, x10]), (9, oR2), (10, oL2), (14, o14b), (0, .cells true wfW), (1, .cells true wfB), (2, .cells true wfP)], 23, some 9, [14, 10, 9, 12]⟩, 23⟩ }, Qst.val (some (.bool (Int.ofNat v == Int.ofNat 0))) (.bool false)]) := by kernel_rfl
theorem fy3_o (v _ _ _ _ _ _ en : Nat) (xe _ : Int) (_ : Bool) (_ _ _ _ oR oR2 oL oL2 _ _ oY _ _ _ o14 o14b _ _ _ _ _ oGy pA pB _ : AObj) (x3 x4 x5 x6 x7 x8 x9 x10 : AV) : runX Tryz.prog none_ 60 9 (.call 9 [.ptr 18 0, .ptr 9 0] ⟨⟨[(18, (.cells false [ii 3, ii 4, .ptr 12 0, .ptr 20 0])), (20, oGy), (12, oY), (9, oR), (10, oL), (14, o14), (0, .cells true wfW), (1, .cells true wfB), (2, .cells true wfP)], 21, none, []⟩, 21⟩) [.call 9 11 5 ud (fun s => noteEsc ((((((s.set 12 (.cells false [ii v, ii en, .int .i64 xe, x3, x4, x5, x6, x7, x8, x9, x10])).set 9 oR2).set 10 oL2).set 14 o14b).push pA).push pB) 9 true), .val 9 12 7 (.bool true)] = some ({ e := .ret, ts := [ud], s := ⟨⟨[(22, pB), (21, pA), (18, .cells false [ii 0, ii en, .ptr 12 0, .ptr 20 0]), (20, oGy), (12, .cells false [ii v, ii en, .int .i64 xe, x3, x4, x5, x6, x7, x8, x9, x10]), (9, oR2), (10, oL2), (14, o14b), (0, .cells true wfW), (1, .cells true wfB), (2, .cells true wfP)], 23, some 9, [18, 18, 14, 10, 9, 12]⟩, 23⟩ }, [], [Qst.snd (Task.call 34 [.ptr 12 0, .ptr 9 0] ⟨⟨[(18, .cells false [ii 3, ii 4, .ptr 12 0, .ptr 20 0]), (20, oGy), (12, oY), (9, oR), (10, oL), (14, o14), (0, .cells true wfW), (1, .cells true wfB), (2, .cells true wfP)], 21, none, []⟩, 21⟩) { e := .ret, ts := [ud], s := ⟨⟨[(22, pB), (21, pA), (18, .cells false [ii 3, ii 4, .ptr 12 0, .ptr 20 0]), (20, oGy), (12, .cells false [ii v, ii en, .int .i64 xe, x3, x4, x5, x6, x7, x8, x9, x10]), (9, oR2), (10, oL2), (14, o14b), (0, .cells true wfW), (1, .cells true wfB), (2, .cells true wfP)], 23, some 9, [14, 10, 9, 12]⟩, 23⟩ }, Qst.val (some (.bool (Int.ofNat v == Int.ofNat 0))) (.bool true)]) := by kernel_rfl
/-! ### a Fallback, plainly -/
def aE : A3 := (2, 0, 0)
def aO (th : Int) : A3 := (8, th, 6)
def mxu : Nat := 18446744073709551615
def nxe (e : Nat) : Nat := (e + 1) % 18446744073709551616
structure FS where
  ln : Nat
  en : Nat
  fl : Nat
  fe : Nat
  σ : SS
/-- A step of the flag. -/
def FS.flg (φ : FS) (th : Int) (m : PM) : (Nat × Nat) × PM := match φ.fl with
  | 1 => ((2, φ.fe), m.store (aO th) mxu)
  | 2 => ((3, getW m.ms aE), m.load aE)
  | 3 => ((4, φ.fe), m.store (aO th) (nxe φ.fe))
  | _ => ((0, φ.fe), m.cas aE φ.fe (nxe φ.fe))
def goesF (v : Nat) : Bool := decide (cz (v % 8) = 0) && decide (v / 8 % 8 = 1)
def FS.step (φ : FS) (th lk : Int) (m : PM) : FS × PM := match φ.ln with
  | 1 => (⟨if goesF (getW m.ms aP) = true then 2 else 0, 4, φ.fl, φ.fe, φ.σ⟩, m.load aP)
  | 2 => (⟨if (φ.flg th m).1.1 = 0 then 3 else 2, 4, (φ.flg th m).1.1, (φ.flg th m).1.2, φ.σ⟩, (φ.flg th m).2)
  | _ => (⟨if (φ.σ.step 2 lk m).1.ln = 0 then 0 else 3, if (φ.σ.step 2 lk m).1.ln = 0 then (φ.σ.step 2 lk m).1.en else 4, φ.fl, φ.fe, (φ.σ.step 2 lk m).1⟩, (φ.σ.step 2 lk m).2)
structure FS.Ok (φ : FS) (lk : Int) : Prop where
  ln : 1 ≤ φ.ln ∧ φ.ln ≤ 3
  en : φ.en = 4
  fl : φ.ln ≠ 3 → 1 ≤ φ.fl ∧ φ.fl ≤ 4
  fl1 : φ.ln = 1 → φ.fl = 1
  fe : φ.fe < 18446744073709551616
  σ : φ.σ.Ok 2 lk
def FS.mu (φ : FS) : Nat := match φ.ln with
  | 0 => 0
  | 1 => 468
  | 2 => 468 - φ.fl
  | _ => φ.σ.mu
theorem SS.mu_le {σ : SS} {to : Nat} {lk : Int} (h : σ.Ok to lk) : σ.mu ≤ 463 := by
  obtain ⟨ln, en, w, wt, a, b, c, n, br⟩ := σ
  obtain ⟨⟨k1, k2⟩, k3, k4, k5, k6, k7, k8, k9, k10⟩ := h
  simp only at k1 k2 k3 k4 k5 k6 k7 k8 k9 k10
  have hln : ln = 1 ∨ ln = 2 ∨ ln = 3 ∨ ln = 4 ∨ ln = 5 ∨ ln = 6 ∨ ln = 7 ∨ ln = 8 := by omega
  rcases hln with rfl | rfl | rfl | rfl | rfl | rfl | rfl | rfl
  · show 463 ≤ 463; omega
  · show 462 ≤ 463; omega
  · have := Go.Proofs.YtchekpapgfojhaaGreatDoor.ctlsFallback.mu_le (k10 rfl)
    show 233 + br.mu ≤ 463
    omega
  · show 232 ≤ 463; omega
  · show 231 ≤ 463; omega
  · have := Go.Proofs.YtchekpapgfojhaaGreatDoor.ctlsFallback.mu_le (k10 rfl)
    show 2 + br.mu ≤ 463
    omega
  · show 1 ≤ 463; omega
  · show 1 ≤ 463; omega
theorem nxe_lt (e : Nat) : nxe e < 18446744073709551616 := Nat.mod_lt _ (by omega)
theorem FS.flg_mem {φ : FS} {th : Int} {m : PM} {k : Nat} (h : m.Ok k) : (φ.flg th m).2.Ok (k + 1) := by
  unfold FS.flg
  split
  · exact h.store _ (by unfold mxu; omega)
  · exact (h.load _).mono (Nat.le_succ k)
  · exact h.store _ (nxe_lt _)
  · exact h.cas _ _ (nxe_lt _)
theorem FS.step_mem {φ : FS} {th lk : Int} {m : PM} {k : Nat} (h : m.Ok k) : (φ.step th lk m).2.Ok (k + 1) := by
  unfold FS.step
  split
  · exact (h.load _).mono (Nat.le_succ k)
  · exact FS.flg_mem h
  · exact Go.Proofs.YtchekpapgfojhaaGreatDoor.ctlsFallback.step_mem h
theorem FS.flg_fe {φ : FS} {th : Int} {m : PM} {k : Nat} (h : m.Ok k) (hf : φ.fe < 18446744073709551616) : (φ.flg th m).1.2 < 18446744073709551616 := by
  unfold FS.flg
  split
  · exact hf
  · exact h.val _
  · exact hf
  · exact hf
theorem FS.flg_fl {φ : FS} {th : Int} {m : PM} (h : 1 ≤ φ.fl ∧ φ.fl ≤ 4) : (φ.flg th m).1.1 = 0 ∨ ((φ.flg th m).1.1 = φ.fl + 1 ∧ φ.fl < 4) := by
  have : φ.fl = 1 ∨ φ.fl = 2 ∨ φ.fl = 3 ∨ φ.fl = 4 := by omega
  unfold FS.flg
  rcases this with e | e | e | e <;> rw [e]
  · exact .inr ⟨rfl, by omega⟩
  · exact .inr ⟨rfl, by omega⟩
  · exact .inr ⟨rfl, by omega⟩
  · exact .inl rfl
section
variable {φ : FS} {th lk : Int} (hO : φ.Ok lk) (l0 : -9223372036854775808 ≤ lk) (l1 : lk ≤ 40) {m : PM} {k : Nat} (hm : m.Ok k) (h0 : (φ.step th lk m).1.ln ≠ 0)
include hO l0 l1 hm h0
theorem FS.step_ok : (φ.step th lk m).1.Ok lk := by
  obtain ⟨ln, en, fl, fe, σ⟩ := φ
  obtain ⟨⟨k1, k2⟩, k3, k4, k5, k6, k7⟩ := hO
  simp only at k1 k2 k3 k4 k5 k6 k7
  have hln : ln = 1 ∨ ln = 2 ∨ ln = 3 := by omega
  rcases hln with rfl | rfl | rfl
  · have h0 : (if goesF (getW m.ms aP) = true then 2 else 0) ≠ 0 := h0
    have hg : goesF (getW m.ms aP) = true := by
      by_cases h : goesF (getW m.ms aP) = true
      · exact h
      · rw [if_neg h] at h0; exact absurd rfl h0
    have e := k5 rfl
    subst e
    show FS.Ok ⟨if goesF (getW m.ms aP) = true then 2 else 0, 4, 1, fe, σ⟩ lk
    rw [if_pos hg]
    exact ⟨⟨by show 1 ≤ 2; omega, by show 2 ≤ 3; omega⟩, rfl, fun _ => ⟨Nat.le_refl 1, by show 1 ≤ 4; omega⟩, fun _ => rfl, k6, k7⟩
  · have hf := FS.flg_fl (φ := ⟨2, en, fl, fe, σ⟩) (th := th) (m := m) (k4 (by omega))
    have he := FS.flg_fe (φ := ⟨2, en, fl, fe, σ⟩) (th := th) hm k6
    show FS.Ok ⟨if (FS.flg ⟨2, en, fl, fe, σ⟩ th m).1.1 = 0 then 3 else 2, 4, (FS.flg ⟨2, en, fl, fe, σ⟩ th m).1.1, (FS.flg ⟨2, en, fl, fe, σ⟩ th m).1.2, σ⟩ lk
    generalize FS.flg ⟨2, en, fl, fe, σ⟩ th m = r at hf he
    have h4 := k4 (by omega)
    rcases hf with e | ⟨e, e2⟩
    · rw [if_pos e]
      exact ⟨⟨by show 1 ≤ 3; omega, by show 3 ≤ 3; omega⟩, rfl, fun h => absurd rfl h, fun h => absurd h (by show ¬ 3 = 1; omega), he, k7⟩
    · have e2 : fl < 4 := e2
      have e : r.1.1 = fl + 1 := e
      rw [if_neg (by omega)]
      exact ⟨⟨by show 1 ≤ 2; omega, by show 2 ≤ 3; omega⟩, rfl, fun _ => ⟨by show 1 ≤ r.1.1; omega, by show r.1.1 ≤ 4; omega⟩, fun h => absurd h (by show ¬ 2 = 1; omega), he, k7⟩
  · have h0 : (if (σ.step 2 lk m).1.ln = 0 then 0 else 3) ≠ 0 := h0
    have h1 : (σ.step 2 lk m).1.ln ≠ 0 := fun h => by rw [if_pos h] at h0; exact h0 rfl
    have hs := SS.step_ok k7 l0 l1 hm h1
    show FS.Ok ⟨if (σ.step 2 lk m).1.ln = 0 then 0 else 3, if (σ.step 2 lk m).1.ln = 0 then (σ.step 2 lk m).1.en else 4, fl, fe, (σ.step 2 lk m).1⟩ lk
    rw [if_neg h1, if_neg h1]
    exact ⟨⟨by show 1 ≤ 3; omega, Nat.le_refl 3⟩, rfl, fun h => absurd rfl h, fun h => absurd h (by show ¬ 3 = 1; omega), k6, hs⟩
theorem FS.mu_step : (φ.step th lk m).1.mu < φ.mu := by
  have hok := FS.step_ok hO l0 l1 hm h0
  obtain ⟨ln, en, fl, fe, σ⟩ := φ
  obtain ⟨⟨k1, k2⟩, k3, k4, k5, k6, k7⟩ := hO
  simp only at k1 k2 k3 k4 k5 k6 k7
  have hln : ln = 1 ∨ ln = 2 ∨ ln = 3 := by omega
  rcases hln with rfl | rfl | rfl
  · have h0 : (if goesF (getW m.ms aP) = true then 2 else 0) ≠ 0 := h0
    have hg : goesF (getW m.ms aP) = true := by
      by_cases h : goesF (getW m.ms aP) = true
      · exact h
      · rw [if_neg h] at h0; exact absurd rfl h0
    have e := k5 rfl
    subst e
    show FS.mu ⟨if goesF (getW m.ms aP) = true then 2 else 0, 4, 1, fe, σ⟩ < 468
    rw [if_pos hg]
    show 468 - 1 < 468
    omega
  · have hf := FS.flg_fl (φ := ⟨2, en, fl, fe, σ⟩) (th := th) (m := m) (k4 (by omega))
    show FS.mu ⟨if (FS.flg ⟨2, en, fl, fe, σ⟩ th m).1.1 = 0 then 3 else 2, 4, (FS.flg ⟨2, en, fl, fe, σ⟩ th m).1.1, (FS.flg ⟨2, en, fl, fe, σ⟩ th m).1.2, σ⟩ < 468 - fl
    generalize FS.flg ⟨2, en, fl, fe, σ⟩ th m = r at hf
    have h4 := k4 (by omega)
    rcases hf with e | ⟨e, e2⟩
    · rw [if_pos e]
      have := SS.mu_le k7
      show σ.mu < 468 - fl
      omega
    · have e2 : fl < 4 := e2
      have e : r.1.1 = fl + 1 := e
      rw [if_neg (by omega)]
      show 468 - r.1.1 < 468 - fl
      omega
  · have h0 : (if (σ.step 2 lk m).1.ln = 0 then 0 else 3) ≠ 0 := h0
    have h1 : (σ.step 2 lk m).1.ln ≠ 0 := fun h => by rw [if_pos h] at h0; exact h0 rfl
    have hs := SS.mu_step k7 l0 l1 h1
    show FS.mu ⟨if (σ.step 2 lk m).1.ln = 0 then 0 else 3, if (σ.step 2 lk m).1.ln = 0 then (σ.step 2 lk m).1.en else 4, fl, fe, (σ.step 2 lk m).1⟩ < σ.mu
    rw [if_neg h1, if_neg h1]
    exact hs
end
end Go.Proofs.YtchekpapgfojhaaGreatDoor.ctlsFallback
