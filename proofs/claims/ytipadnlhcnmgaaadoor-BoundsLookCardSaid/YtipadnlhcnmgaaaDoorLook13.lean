/- The law BoundsLook answers true, whichever rows are empty. Conditions: those that each theorem names, and no others. -/
import Derived.Test.YtipadnlhcnmgaaaDoorLook10
import Derived.Test.YtipadnlhcnmgaaaDoorLook11
import Derived.Test.YtipadnlhcnmgaaaDoorLook12
namespace Go.Proofs.YtipadnlhcnmgaaaDoor.boundsLook
open Go Go.Mini
theorem rows_lenB {α : Type} {fC : α → List AV} {sz : Nat} (hf : ∀ x, (fC x).length = sz) (l : List α) : (rowsOf fC l).length = l.length * sz := by
  induction l with
  | nil => simp [rowsOf]
  | cons x l ih =>
    show (fC x ++ rowsOf fC l).length = _
    rw [List.length_append, ih, hf, List.length_cons, Nat.add_mul, Nat.one_mul, Nat.add_comm]
theorem rows_oneB {α : Type} {fC : α → List AV} (ho : ∀ x, (fC x).all AV.one = true) (l : List α) : (rowsOf fC l).all AV.one = true := by
  induction l with
  | nil => rfl
  | cons x l ih =>
    show (fC x ++ rowsOf fC l).all AV.one = true
    rw [List.all_append, ih, ho]
    rfl
theorem rows_app {α : Type} (fC : α → List AV) (a b : List α) : rowsOf fC (a ++ b) = rowsOf fC a ++ rowsOf fC b := by
  simp [rowsOf]
section
variable {α : Type} {fC : α → List AV} {sz : Nat} {t : TypeId} (hr : rowT Tryd.prog t t sz = true)
include hr
theorem app_row (hf : ∀ x, (fC x).length = sz) (ho : ∀ x, (fC x).all AV.one = true) {L : List α} {n c b : Nat} {s : AS} {ro : Bool} (hs : s.get b = some (.cells ro (rowsOf fC L))) (hn : 0 < n) (h : n ≤ L.length) (h2 : n < 1000) :
    appendA Tryd.prog s t t .nilSlice (.slice b 0 n c) = some (.osl s.nx 0 n sz, s.push (.cells false (rowsOf fC (L.take n)))) := by
  obtain ⟨elem, e2, i, z, size, u1, u2, u3, u4, u5, rfl, u6, u7⟩ := rowT_inv hr
  have hfa : firstA s (size + 1) n (.slice b 0 n c) = some (rowsOf fC (L.take n)) := by
    have e : rowsOf fC L = rowsOf fC (L.take n) ++ rowsOf fC (L.drop n) := by rw [← rows_app, List.take_append_drop]
    simp only [firstA, readA, hs, List.drop_zero]
    rw [e]
    exact takeN_row (by rw [rows_lenB hf, List.length_take, Nat.min_eq_left h])
  have hb : Nat.beq n 0 = false := by
    cases hq : Nat.beq n 0 with
    | false => rfl
    | true => have := Nat.eq_of_beq_eq_true hq; omega
  have hsm : small n = true := by unfold small; exact Nat.ble_eq_true_of_le (by omega)
  simp only [appendA, u1, u3, u4, u5, sliceLen, u6, u7, hfa, rows_oneB ho, hb, hsm, Bool.and_self, Bool.not_true, Bool.false_eq_true, if_false, if_true]
theorem app_zero {b c : Nat} {s : AS} {ro : Bool} {cs : List AV} (hs : s.get b = some (.cells ro cs)) : appendA Tryd.prog s t t .nilSlice (.slice b 0 0 c) = some (.nilSlice, s) := by
  obtain ⟨elem, e2, i, z, size, u1, u2, u3, u4, u5, rfl, u6, u7⟩ := rowT_inv hr
  have hfa : firstA s (size + 1) 0 (.slice b 0 0 c) = some [] := by
    simp only [firstA, readA, hs, Nat.zero_mul, takeN]
  have hb : Nat.beq 0 0 = true := rfl
  simp only [appendA, u1, u3, u4, u5, sliceLen, u6, u7, hfa, hb, List.all_nil, Bool.and_self, Bool.not_true, Bool.false_eq_true, if_false, if_true]
theorem app_nn {s : AS} : appendA Tryd.prog s t t .nilSlice .nilSlice = some (.nilSlice, s) := by
  obtain ⟨elem, e2, i, z, size, u1, u2, u3, u4, u5, rfl, u6, u7⟩ := rowT_inv hr
  have hfa : firstA s (size + 1) 0 .nilSlice = some [] := rfl
  have hb : Nat.beq 0 0 = true := rfl
  simp only [appendA, u1, u3, u4, u5, sliceLen, u6, u7, hfa, hb, List.all_nil, Bool.and_self, Bool.not_true, Bool.false_eq_true, if_false, if_true]
end
theorem splice_full : ∀ (vs cs : List AV), vs.length = cs.length → Mini.splice 0 vs cs = some vs
  | [], [], _ => rfl
  | [], _ :: _, h => by simp at h
  | _ :: _, [], h => by simp at h
  | v :: vs, c :: cs, h => by
    have := splice_full vs cs (by simpa using h)
    simp only [Mini.splice, this]
theorem z33 : sizeA Tryd.prog 33 = some 10 := by kernel_rfl
theorem sto_look {s : AS} {Z : List AV} (hs : s.get 6 = some (.cells false Z)) (hZ : Z.length = 10) (l : Lk) (xh xe xt : AV) (y1 : AV.young 6 xh = false) (y2 : AV.young 6 xe = false) (y3 : AV.young 6 xt = false) (o1 : AV.one xh = true) (o2 : AV.one xe = true) (o3 : AV.one xt = true) :
    storeA Tryd.prog s 33 (.ptr 6 0) (.agg (lkC l xh xe xt)) = some (s.set 6 (.cells false (lkC l xh xe xt))) := by
  have h1 : Nat.beq (AV.agg (lkC l xh xe xt)).cells.length 10 = true := rfl
  have h2 : (AV.agg (lkC l xh xe xt)).cells.all AV.one = true := by
    show (true && (true && (true && (true && (true && (true && (xh.one && (xe.one && (xt.one && (true && true)))))))))) = true
    rw [o1, o2, o3]
    rfl
  have h3 : (AV.agg (lkC l xh xe xt)).cells.any (AV.young 6) = false := by
    show (false || (false || (false || (false || (false || (false || (AV.young 6 xh || (AV.young 6 xe || (AV.young 6 xt || (false || false)))))))))) = false
    rw [y1, y2, y3]
    rfl
  have h4 : Mini.splice 0 (AV.agg (lkC l xh xe xt)).cells Z = some (lkC l xh xe xt) := splice_full _ _ (by rw [hZ]; rfl)
  simp only [storeA, z33, h1, if_true, writeA, hs, h2, h4, h3, noteEsc, Bool.false_eq_true, if_false]
/-- A row that came in, and what its copy is. -/
def Pk {α : Type} (t elem : TypeId) (sz : Nat) (fC : α → List AV) (rest : List (Nat × AObj)) (x : AV) (n : Nat) (f : Nat → AV) (L : List α) : Prop :=
  ∃ (H : Nat → AV) (b : Nat) (cs : List AV) (r : Bool), x = H b ∧ b < 5 ∧ Fam t elem H cs n f ∧ getB rest b = some (.cells r cs) ∧ AV.young 6 x = false ∧ AV.one x = true ∧
    ((n = 0 ∧ ∀ s : AS, (∀ b, b < 5 → s.get b = getB rest b) → appendA Tryd.prog s t t .nilSlice x = some (.nilSlice, s)) ∨
     (0 < n ∧ n ≤ L.length ∧ ∀ s : AS, (∀ b, b < 5 → s.get b = getB rest b) → appendA Tryd.prog s t t .nilSlice x = some (.osl s.nx 0 n sz, s.push (.cells false (rowsOf fC (L.take n))))))
theorem len_q (n : Nat) (h : n ≤ 60) : (Qst.val (some (AV.bool (decide (Int.ofNat n > 60)))) (AV.bool false)).ok Tryd.prog := by simp [Qst.ok]; omega
theorem len_Q (n : Nat) (h : ¬ n ≤ 60) : (Qst.val (some (AV.bool (decide (Int.ofNat n > 60)))) (AV.bool true)).ok Tryd.prog := by simp [Qst.ok]; omega
theorem ne_self (n : Nat) : (Qst.val (some (AV.bool (Int.ofNat n != Int.ofNat n))) (AV.bool false)).ok Tryd.prog := by simp [Qst.ok]
theorem hasG_ofB {s : AS} {r0 : Bool} (h0 : s.get 0 = some (.cells r0 wf)) : hasG s G = true := by
  have b0 : AV.beqs wf wf = true := by kernel_rfl
  simp only [hasG, G, List.all_cons, List.all_nil, h0, b0, Bool.and_self]
section
variable (l : Lk) (Lh : List Nat) (Le : List En) (Lt : List Th) (nh ne nt : Nat) (rest : List (Nat × AObj)) (r0 : Bool) (h0 : getB rest 0 = some (.cells r0 wf))
  (hw : ∀ k, wdL Lh k < 18446744073709551616) (nh60 : nh ≤ 60) (ne60 : ne ≤ 60) (nt60 : nt ≤ 60)
include h0 hw nh60 ne60 nt60
theorem bl_case000 (H E T : Nat → AV) (bh be bt : Nat) (ch ce ct : List AV) (rh re rt : Bool) (fh : Fam 27 24 H ch nh (fun k => .int .u64 (Int.ofNat (wdL Lh k)))) (fe : Fam 28 97 E ce ne (fun k => .agg (enC (enL Le k)))) (ft : Fam 29 101 T ct nt (fun k => .agg (thC (thL Lt k))))
    (lh : bh < 5) (le : be < 5) (lt : bt < 5) (gh : getB rest bh = some (.cells rh ch)) (ge : getB rest be = some (.cells re ce)) (gt : getB rest bt = some (.cells rt ct))
    (yh : AV.young 6 (H bh) = false) (ye : AV.young 6 (E be) = false) (yt : AV.young 6 (T bt) = false) (oh : AV.one (H bh) = true) (oe : AV.one (E be) = true) (ot : AV.one (T bt) = true)
    (ah : nh = 0 ∧ ∀ s : AS, (∀ b, b < 5 → s.get b = getB rest b) → appendA Tryd.prog s 27 27 .nilSlice (H bh) = some (.nilSlice, s))
    (ae : ne = 0 ∧ ∀ s : AS, (∀ b, b < 5 → s.get b = getB rest b) → appendA Tryd.prog s 28 28 .nilSlice (E be) = some (.nilSlice, s))
    (at_ : nt = 0 ∧ ∀ s : AS, (∀ b, b < 5 → s.get b = getB rest b) → appendA Tryd.prog s 29 29 .nilSlice (T bt) = some (.nilSlice, s)) :
    ∃ e s1, Sound Tryd.prog (.call 3 [.agg (lkC l (H bh) (E be) (T bt))] ⟨⟨rest, 5, none, []⟩, 5⟩) ⟨e, [.bool true], s1⟩ := by
  have fH := fam_nil t27B wf (by kernel_rfl) (fun k => .int .u64 (Int.ofNat (wdL Lh k)))
  rw [← ah.1] at fH
  have fE := fam_nil t28B wf (by kernel_rfl) (fun k => .agg (enC (enL Le k)))
  rw [← ae.1] at fE
  have fT := fam_nil t29 wf (by kernel_rfl) (fun k => .agg (thC (thL Lt k)))
  rw [← at_.1] at fT
  have tr := trow_n wf (thL Lt)
  rw [← at_.1] at tr
  let S : AS := ⟨⟨[(6, .cells false (lkC l (.nilSlice) (.nilSlice) (.nilSlice))), (5, .cells false (lkC l (H bh) (E be) (T bt)))] ++ rest, 7, none, [6, 6, 6, 6]⟩, 7⟩
  have gS : ∀ b, b < 5 → S.get b = getB rest b := fun b hb => by
    show getB ([(6, .cells false (lkC l (.nilSlice) (.nilSlice) (.nilSlice))), (5, .cells false (lkC l (H bh) (E be) (T bt)))] ++ rest) b = _
    simp only [List.cons_append, List.nil_append]
    rw [getB_cons, if_neg (by omega), getB_cons, if_neg (by omega)]
  have g6 : ∀ (x y : List AV) (len nx : Nat) (es : Option Nat) (wr : List Nat) b, b < 5 → AS.get ⟨⟨(6, .cells false x) :: (5, .cells false y) :: rest, len, es, wr⟩, nx⟩ b = getB rest b := fun x y len nx es wr b hb => by
    show getB ((6, _) :: (5, _) :: rest) b = _
    rw [getB_cons, if_neg (by omega), getB_cons, if_neg (by omega)]
  have g7 : ∀ (z : Nat × AObj) (x y : List AV) (len nx : Nat) (es : Option Nat) (wr : List Nat) b, b < 5 → 5 ≤ z.1 → AS.get ⟨⟨z :: (6, .cells false x) :: (5, .cells false y) :: rest, len, es, wr⟩, nx⟩ b = getB rest b := fun z x y len nx es wr b hb hz => by
    show getB ((z.1, z.2) :: (6, _) :: (5, _) :: rest) b = _
    rw [getB_cons, if_neg (by omega), getB_cons, if_neg (by omega), getB_cons, if_neg (by omega)]
  have g8 : ∀ (z w : Nat × AObj) (x y : List AV) (len nx : Nat) (es : Option Nat) (wr : List Nat) b, b < 5 → 5 ≤ z.1 → 5 ≤ w.1 → AS.get ⟨⟨z :: w :: (6, .cells false x) :: (5, .cells false y) :: rest, len, es, wr⟩, nx⟩ b = getB rest b := fun z w x y len nx es wr b hb hz hw => by
    show getB ((z.1, z.2) :: (w.1, w.2) :: (6, _) :: (5, _) :: rest) b = _
    rw [getB_cons, if_neg (by omega), getB_cons, if_neg (by omega), getB_cons, if_neg (by omega), getB_cons, if_neg (by omega)]
  have s0 : S.get 0 = some (.cells r0 wf) := (gS 0 (by decide)).trans h0
  have sh := (gS bh lh).trans gh
  have se := (gS be le).trans ge
  have st := (gS bt lt).trans gt
  have c12 := u12 (fun _ => .nilSlice) (fun _ => .nilSlice) (wf) (wf) ne nt (enL Le) (thL Lt) fE fT tr l.A l.H l.ep 0 0 S r0 r0 s0 s0
  have c13 := u13 E T ce ct ne nt (enL Le) (thL Lt) fe ft l.A l.H l.ep be bt S re rt se st
  have c14 := u14 (fun _ => .nilSlice) (wf) nh (wdL Lh) fH (fun k _ => hw k) 0 S r0 r0 s0 s0
  have c15 := u15 H ch nh (wdL Lh) fh (fun k _ => hw k) bh S rh r0 sh s0
  have c16 := u16 (fun _ => .nilSlice) (fun _ => .nilSlice) (fun _ => .nilSlice) (wf) (wf) (wf) nh ne nt (wdL Lh) (enL Le) (thL Lt) fH (fun k _ => hw k) fE fT tr l 0 0 0 S r0 r0 r0 r0 s0 s0 s0 s0
  have c17 := u17 H E T ch ce ct nh ne nt (wdL Lh) (enL Le) (thL Lt) fh (fun k _ => hw k) fe ft l bh be bt S r0 re rt rh se st sh s0
  have c18 := u18 H E T (fun _ => .nilSlice) (fun _ => .nilSlice) (fun _ => .nilSlice) ch ce ct (wf) (wf) (wf) nh ne nt (wdL Lh) (enL Le) (thL Lt) fh fe ft fH fE fT l bh be bt 0 0 0 S re rt rh r0 r0 r0 se st sh s0 s0 s0
  exact ⟨_, _, runX_sound mixed none_sound (bl_m000 l (H bh) (E be) (T bt) ([]) ([]) ([]) nh ne nt (tmF (cl l.A) (cl l.H) + 3 * cl l.A) (IB l.A l.H (enL Le) (thL Lt) ne nt) (U (wdL Lh) nh) (FB l (wdL Lh) (enL Le) (thL Lt) nh ne nt) rest)
    ⟨(fh.row bh).len _, len_q _ nh60, (fe.row be).len _, len_q _ ne60, (ft.row bt).len _, len_q _ nt60, ⟨sto_look rfl rfl l _ _ _ yh ye yt oh oe ot, rfl⟩, (ah.2 _ (fun b hb => g6 _ _ _ _ _ _ b hb)), (ae.2 _ (fun b hb => g6 _ _ _ _ _ _ b hb)), (at_.2 _ (fun b hb => g6 _ _ _ _ _ _ b hb)), fun s _ => hp_call _ _ s, fun s _ => rhp_call _ _ s, ne_self _, c12, c13, ne_self _, c14, c15, ne_self _, c16, c17, by simp [Qst.ok], c18, lives35_call S (hasG_ofB s0), trivial⟩⟩
theorem bl_case001 (H E T : Nat → AV) (bh be bt : Nat) (ch ce ct : List AV) (rh re rt : Bool) (fh : Fam 27 24 H ch nh (fun k => .int .u64 (Int.ofNat (wdL Lh k)))) (fe : Fam 28 97 E ce ne (fun k => .agg (enC (enL Le k)))) (ft : Fam 29 101 T ct nt (fun k => .agg (thC (thL Lt k))))
    (lh : bh < 5) (le : be < 5) (lt : bt < 5) (gh : getB rest bh = some (.cells rh ch)) (ge : getB rest be = some (.cells re ce)) (gt : getB rest bt = some (.cells rt ct))
    (yh : AV.young 6 (H bh) = false) (ye : AV.young 6 (E be) = false) (yt : AV.young 6 (T bt) = false) (oh : AV.one (H bh) = true) (oe : AV.one (E be) = true) (ot : AV.one (T bt) = true)
    (ah : nh = 0 ∧ ∀ s : AS, (∀ b, b < 5 → s.get b = getB rest b) → appendA Tryd.prog s 27 27 .nilSlice (H bh) = some (.nilSlice, s))
    (ae : ne = 0 ∧ ∀ s : AS, (∀ b, b < 5 → s.get b = getB rest b) → appendA Tryd.prog s 28 28 .nilSlice (E be) = some (.nilSlice, s))
    (at_ : 0 < nt ∧ nt ≤ Lt.length ∧ ∀ s : AS, (∀ b, b < 5 → s.get b = getB rest b) → appendA Tryd.prog s 29 29 .nilSlice (T bt) = some (.osl s.nx 0 nt 10, s.push (.cells false (rowsOf thC (Lt.take nt))))) :
    ∃ e s1, Sound Tryd.prog (.call 3 [.agg (lkC l (H bh) (E be) (T bt))] ⟨⟨rest, 5, none, []⟩, 5⟩) ⟨e, [.bool true], s1⟩ := by
  have fH := fam_nil t27B wf (by kernel_rfl) (fun k => .int .u64 (Int.ofNat (wdL Lh k)))
  rw [← ah.1] at fH
  have fE := fam_nil t28B wf (by kernel_rfl) (fun k => .agg (enC (enL Le k)))
  rw [← ae.1] at fE
  have fT := famT_o Lt nt at_.2.1 (by omega)
  have tr := trow_o Lt nt at_.2.1 (by omega)
  let S : AS := ⟨⟨[(7, .cells false (rowsOf thC (Lt.take nt))), (6, .cells false (lkC l (.nilSlice) (.nilSlice) (.osl 7 0 nt 10))), (5, .cells false (lkC l (H bh) (E be) (T bt)))] ++ rest, 8, some 6, [6, 6, 6, 6]⟩, 8⟩
  have gS : ∀ b, b < 5 → S.get b = getB rest b := fun b hb => by
    show getB ([(7, .cells false (rowsOf thC (Lt.take nt))), (6, .cells false (lkC l (.nilSlice) (.nilSlice) (.osl 7 0 nt 10))), (5, .cells false (lkC l (H bh) (E be) (T bt)))] ++ rest) b = _
    simp only [List.cons_append, List.nil_append]
    rw [getB_cons, if_neg (by omega), getB_cons, if_neg (by omega), getB_cons, if_neg (by omega)]
  have g6 : ∀ (x y : List AV) (len nx : Nat) (es : Option Nat) (wr : List Nat) b, b < 5 → AS.get ⟨⟨(6, .cells false x) :: (5, .cells false y) :: rest, len, es, wr⟩, nx⟩ b = getB rest b := fun x y len nx es wr b hb => by
    show getB ((6, _) :: (5, _) :: rest) b = _
    rw [getB_cons, if_neg (by omega), getB_cons, if_neg (by omega)]
  have g7 : ∀ (z : Nat × AObj) (x y : List AV) (len nx : Nat) (es : Option Nat) (wr : List Nat) b, b < 5 → 5 ≤ z.1 → AS.get ⟨⟨z :: (6, .cells false x) :: (5, .cells false y) :: rest, len, es, wr⟩, nx⟩ b = getB rest b := fun z x y len nx es wr b hb hz => by
    show getB ((z.1, z.2) :: (6, _) :: (5, _) :: rest) b = _
    rw [getB_cons, if_neg (by omega), getB_cons, if_neg (by omega), getB_cons, if_neg (by omega)]
  have g8 : ∀ (z w : Nat × AObj) (x y : List AV) (len nx : Nat) (es : Option Nat) (wr : List Nat) b, b < 5 → 5 ≤ z.1 → 5 ≤ w.1 → AS.get ⟨⟨z :: w :: (6, .cells false x) :: (5, .cells false y) :: rest, len, es, wr⟩, nx⟩ b = getB rest b := fun z w x y len nx es wr b hb hz hw => by
    show getB ((z.1, z.2) :: (w.1, w.2) :: (6, _) :: (5, _) :: rest) b = _
    rw [getB_cons, if_neg (by omega), getB_cons, if_neg (by omega), getB_cons, if_neg (by omega), getB_cons, if_neg (by omega)]
  have s0 : S.get 0 = some (.cells r0 wf) := (gS 0 (by decide)).trans h0
  have sh := (gS bh lh).trans gh
  have se := (gS be le).trans ge
  have st := (gS bt lt).trans gt
  have c12 := u12 (fun _ => .nilSlice) (fun b => .osl b 0 nt 10) (wf) (rowsOf thC (Lt.take nt)) ne nt (enL Le) (thL Lt) fE fT tr l.A l.H l.ep 0 7 S r0 false s0 rfl
  have c13 := u13 E T ce ct ne nt (enL Le) (thL Lt) fe ft l.A l.H l.ep be bt S re rt se st
  have c14 := u14 (fun _ => .nilSlice) (wf) nh (wdL Lh) fH (fun k _ => hw k) 0 S r0 r0 s0 s0
  have c15 := u15 H ch nh (wdL Lh) fh (fun k _ => hw k) bh S rh r0 sh s0
  have c16 := u16 (fun _ => .nilSlice) (fun _ => .nilSlice) (fun b => .osl b 0 nt 10) (wf) (wf) (rowsOf thC (Lt.take nt)) nh ne nt (wdL Lh) (enL Le) (thL Lt) fH (fun k _ => hw k) fE fT tr l 0 0 7 S r0 r0 false r0 s0 rfl s0 s0
  have c17 := u17 H E T ch ce ct nh ne nt (wdL Lh) (enL Le) (thL Lt) fh (fun k _ => hw k) fe ft l bh be bt S r0 re rt rh se st sh s0
  have c18 := u18 H E T (fun _ => .nilSlice) (fun _ => .nilSlice) (fun b => .osl b 0 nt 10) ch ce ct (wf) (wf) (rowsOf thC (Lt.take nt)) nh ne nt (wdL Lh) (enL Le) (thL Lt) fh fe ft fH fE fT l bh be bt 0 0 7 S re rt rh r0 false r0 se st sh s0 rfl s0
  exact ⟨_, _, runX_sound mixed none_sound (bl_m001 l (H bh) (E be) (T bt) ([]) ([]) (rowsOf thC (Lt.take nt)) nh ne nt (tmF (cl l.A) (cl l.H) + 3 * cl l.A) (IB l.A l.H (enL Le) (thL Lt) ne nt) (U (wdL Lh) nh) (FB l (wdL Lh) (enL Le) (thL Lt) nh ne nt) rest)
    ⟨(fh.row bh).len _, len_q _ nh60, (fe.row be).len _, len_q _ ne60, (ft.row bt).len _, len_q _ nt60, ⟨sto_look rfl rfl l _ _ _ yh ye yt oh oe ot, rfl⟩, (ah.2 _ (fun b hb => g6 _ _ _ _ _ _ b hb)), (ae.2 _ (fun b hb => g6 _ _ _ _ _ _ b hb)), (at_.2.2 _ (fun b hb => g6 _ _ _ _ _ _ b hb)), fun s _ => hp_call _ _ s, fun s _ => rhp_call _ _ s, ne_self _, c12, c13, ne_self _, c14, c15, ne_self _, c16, c17, by simp [Qst.ok], c18, lives35_call S (hasG_ofB s0), trivial⟩⟩
theorem bl_case010 (H E T : Nat → AV) (bh be bt : Nat) (ch ce ct : List AV) (rh re rt : Bool) (fh : Fam 27 24 H ch nh (fun k => .int .u64 (Int.ofNat (wdL Lh k)))) (fe : Fam 28 97 E ce ne (fun k => .agg (enC (enL Le k)))) (ft : Fam 29 101 T ct nt (fun k => .agg (thC (thL Lt k))))
    (lh : bh < 5) (le : be < 5) (lt : bt < 5) (gh : getB rest bh = some (.cells rh ch)) (ge : getB rest be = some (.cells re ce)) (gt : getB rest bt = some (.cells rt ct))
    (yh : AV.young 6 (H bh) = false) (ye : AV.young 6 (E be) = false) (yt : AV.young 6 (T bt) = false) (oh : AV.one (H bh) = true) (oe : AV.one (E be) = true) (ot : AV.one (T bt) = true)
    (ah : nh = 0 ∧ ∀ s : AS, (∀ b, b < 5 → s.get b = getB rest b) → appendA Tryd.prog s 27 27 .nilSlice (H bh) = some (.nilSlice, s))
    (ae : 0 < ne ∧ ne ≤ Le.length ∧ ∀ s : AS, (∀ b, b < 5 → s.get b = getB rest b) → appendA Tryd.prog s 28 28 .nilSlice (E be) = some (.osl s.nx 0 ne 6, s.push (.cells false (rowsOf enC (Le.take ne)))))
    (at_ : nt = 0 ∧ ∀ s : AS, (∀ b, b < 5 → s.get b = getB rest b) → appendA Tryd.prog s 29 29 .nilSlice (T bt) = some (.nilSlice, s)) :
    ∃ e s1, Sound Tryd.prog (.call 3 [.agg (lkC l (H bh) (E be) (T bt))] ⟨⟨rest, 5, none, []⟩, 5⟩) ⟨e, [.bool true], s1⟩ := by
  have fH := fam_nil t27B wf (by kernel_rfl) (fun k => .int .u64 (Int.ofNat (wdL Lh k)))
  rw [← ah.1] at fH
  have fE := famE_o Le ne ae.2.1 (by omega)
  have fT := fam_nil t29 wf (by kernel_rfl) (fun k => .agg (thC (thL Lt k)))
  rw [← at_.1] at fT
  have tr := trow_n wf (thL Lt)
  rw [← at_.1] at tr
  let S : AS := ⟨⟨[(7, .cells false (rowsOf enC (Le.take ne))), (6, .cells false (lkC l (.nilSlice) (.osl 7 0 ne 6) (.nilSlice))), (5, .cells false (lkC l (H bh) (E be) (T bt)))] ++ rest, 8, some 6, [6, 6, 6, 6]⟩, 8⟩
  have gS : ∀ b, b < 5 → S.get b = getB rest b := fun b hb => by
    show getB ([(7, .cells false (rowsOf enC (Le.take ne))), (6, .cells false (lkC l (.nilSlice) (.osl 7 0 ne 6) (.nilSlice))), (5, .cells false (lkC l (H bh) (E be) (T bt)))] ++ rest) b = _
    simp only [List.cons_append, List.nil_append]
    rw [getB_cons, if_neg (by omega), getB_cons, if_neg (by omega), getB_cons, if_neg (by omega)]
  have g6 : ∀ (x y : List AV) (len nx : Nat) (es : Option Nat) (wr : List Nat) b, b < 5 → AS.get ⟨⟨(6, .cells false x) :: (5, .cells false y) :: rest, len, es, wr⟩, nx⟩ b = getB rest b := fun x y len nx es wr b hb => by
    show getB ((6, _) :: (5, _) :: rest) b = _
    rw [getB_cons, if_neg (by omega), getB_cons, if_neg (by omega)]
  have g7 : ∀ (z : Nat × AObj) (x y : List AV) (len nx : Nat) (es : Option Nat) (wr : List Nat) b, b < 5 → 5 ≤ z.1 → AS.get ⟨⟨z :: (6, .cells false x) :: (5, .cells false y) :: rest, len, es, wr⟩, nx⟩ b = getB rest b := fun z x y len nx es wr b hb hz => by
    show getB ((z.1, z.2) :: (6, _) :: (5, _) :: rest) b = _
    rw [getB_cons, if_neg (by omega), getB_cons, if_neg (by omega), getB_cons, if_neg (by omega)]
  have g8 : ∀ (z w : Nat × AObj) (x y : List AV) (len nx : Nat) (es : Option Nat) (wr : List Nat) b, b < 5 → 5 ≤ z.1 → 5 ≤ w.1 → AS.get ⟨⟨z :: w :: (6, .cells false x) :: (5, .cells false y) :: rest, len, es, wr⟩, nx⟩ b = getB rest b := fun z w x y len nx es wr b hb hz hw => by
    show getB ((z.1, z.2) :: (w.1, w.2) :: (6, _) :: (5, _) :: rest) b = _
    rw [getB_cons, if_neg (by omega), getB_cons, if_neg (by omega), getB_cons, if_neg (by omega), getB_cons, if_neg (by omega)]
  have s0 : S.get 0 = some (.cells r0 wf) := (gS 0 (by decide)).trans h0
  have sh := (gS bh lh).trans gh
  have se := (gS be le).trans ge
  have st := (gS bt lt).trans gt
  have c12 := u12 (fun b => .osl b 0 ne 6) (fun _ => .nilSlice) (rowsOf enC (Le.take ne)) (wf) ne nt (enL Le) (thL Lt) fE fT tr l.A l.H l.ep 7 0 S false r0 rfl s0
  have c13 := u13 E T ce ct ne nt (enL Le) (thL Lt) fe ft l.A l.H l.ep be bt S re rt se st
  have c14 := u14 (fun _ => .nilSlice) (wf) nh (wdL Lh) fH (fun k _ => hw k) 0 S r0 r0 s0 s0
  have c15 := u15 H ch nh (wdL Lh) fh (fun k _ => hw k) bh S rh r0 sh s0
  have c16 := u16 (fun _ => .nilSlice) (fun b => .osl b 0 ne 6) (fun _ => .nilSlice) (wf) (rowsOf enC (Le.take ne)) (wf) nh ne nt (wdL Lh) (enL Le) (thL Lt) fH (fun k _ => hw k) fE fT tr l 0 7 0 S r0 false r0 r0 rfl s0 s0 s0
  have c17 := u17 H E T ch ce ct nh ne nt (wdL Lh) (enL Le) (thL Lt) fh (fun k _ => hw k) fe ft l bh be bt S r0 re rt rh se st sh s0
  have c18 := u18 H E T (fun _ => .nilSlice) (fun b => .osl b 0 ne 6) (fun _ => .nilSlice) ch ce ct (wf) (rowsOf enC (Le.take ne)) (wf) nh ne nt (wdL Lh) (enL Le) (thL Lt) fh fe ft fH fE fT l bh be bt 0 7 0 S re rt rh false r0 r0 se st sh rfl s0 s0
  exact ⟨_, _, runX_sound mixed none_sound (bl_m010 l (H bh) (E be) (T bt) ([]) (rowsOf enC (Le.take ne)) ([]) nh ne nt (tmF (cl l.A) (cl l.H) + 3 * cl l.A) (IB l.A l.H (enL Le) (thL Lt) ne nt) (U (wdL Lh) nh) (FB l (wdL Lh) (enL Le) (thL Lt) nh ne nt) rest)
    ⟨(fh.row bh).len _, len_q _ nh60, (fe.row be).len _, len_q _ ne60, (ft.row bt).len _, len_q _ nt60, ⟨sto_look rfl rfl l _ _ _ yh ye yt oh oe ot, rfl⟩, (ah.2 _ (fun b hb => g6 _ _ _ _ _ _ b hb)), (ae.2.2 _ (fun b hb => g6 _ _ _ _ _ _ b hb)), (at_.2 _ (fun b hb => g7 _ _ _ _ _ _ _ b hb (Nat.le_of_ble_eq_true rfl))), fun s _ => hp_call _ _ s, fun s _ => rhp_call _ _ s, ne_self _, c12, c13, ne_self _, c14, c15, ne_self _, c16, c17, by simp [Qst.ok], c18, lives35_call S (hasG_ofB s0), trivial⟩⟩
theorem bl_case011 (H E T : Nat → AV) (bh be bt : Nat) (ch ce ct : List AV) (rh re rt : Bool) (fh : Fam 27 24 H ch nh (fun k => .int .u64 (Int.ofNat (wdL Lh k)))) (fe : Fam 28 97 E ce ne (fun k => .agg (enC (enL Le k)))) (ft : Fam 29 101 T ct nt (fun k => .agg (thC (thL Lt k))))
    (lh : bh < 5) (le : be < 5) (lt : bt < 5) (gh : getB rest bh = some (.cells rh ch)) (ge : getB rest be = some (.cells re ce)) (gt : getB rest bt = some (.cells rt ct))
    (yh : AV.young 6 (H bh) = false) (ye : AV.young 6 (E be) = false) (yt : AV.young 6 (T bt) = false) (oh : AV.one (H bh) = true) (oe : AV.one (E be) = true) (ot : AV.one (T bt) = true)
    (ah : nh = 0 ∧ ∀ s : AS, (∀ b, b < 5 → s.get b = getB rest b) → appendA Tryd.prog s 27 27 .nilSlice (H bh) = some (.nilSlice, s))
    (ae : 0 < ne ∧ ne ≤ Le.length ∧ ∀ s : AS, (∀ b, b < 5 → s.get b = getB rest b) → appendA Tryd.prog s 28 28 .nilSlice (E be) = some (.osl s.nx 0 ne 6, s.push (.cells false (rowsOf enC (Le.take ne)))))
    (at_ : 0 < nt ∧ nt ≤ Lt.length ∧ ∀ s : AS, (∀ b, b < 5 → s.get b = getB rest b) → appendA Tryd.prog s 29 29 .nilSlice (T bt) = some (.osl s.nx 0 nt 10, s.push (.cells false (rowsOf thC (Lt.take nt))))) :
    ∃ e s1, Sound Tryd.prog (.call 3 [.agg (lkC l (H bh) (E be) (T bt))] ⟨⟨rest, 5, none, []⟩, 5⟩) ⟨e, [.bool true], s1⟩ := by
  have fH := fam_nil t27B wf (by kernel_rfl) (fun k => .int .u64 (Int.ofNat (wdL Lh k)))
  rw [← ah.1] at fH
  have fE := famE_o Le ne ae.2.1 (by omega)
  have fT := famT_o Lt nt at_.2.1 (by omega)
  have tr := trow_o Lt nt at_.2.1 (by omega)
  let S : AS := ⟨⟨[(8, .cells false (rowsOf thC (Lt.take nt))), (7, .cells false (rowsOf enC (Le.take ne))), (6, .cells false (lkC l (.nilSlice) (.osl 7 0 ne 6) (.osl 8 0 nt 10))), (5, .cells false (lkC l (H bh) (E be) (T bt)))] ++ rest, 9, some 6, [6, 6, 6, 6]⟩, 9⟩
  have gS : ∀ b, b < 5 → S.get b = getB rest b := fun b hb => by
    show getB ([(8, .cells false (rowsOf thC (Lt.take nt))), (7, .cells false (rowsOf enC (Le.take ne))), (6, .cells false (lkC l (.nilSlice) (.osl 7 0 ne 6) (.osl 8 0 nt 10))), (5, .cells false (lkC l (H bh) (E be) (T bt)))] ++ rest) b = _
    simp only [List.cons_append, List.nil_append]
    rw [getB_cons, if_neg (by omega), getB_cons, if_neg (by omega), getB_cons, if_neg (by omega), getB_cons, if_neg (by omega)]
  have g6 : ∀ (x y : List AV) (len nx : Nat) (es : Option Nat) (wr : List Nat) b, b < 5 → AS.get ⟨⟨(6, .cells false x) :: (5, .cells false y) :: rest, len, es, wr⟩, nx⟩ b = getB rest b := fun x y len nx es wr b hb => by
    show getB ((6, _) :: (5, _) :: rest) b = _
    rw [getB_cons, if_neg (by omega), getB_cons, if_neg (by omega)]
  have g7 : ∀ (z : Nat × AObj) (x y : List AV) (len nx : Nat) (es : Option Nat) (wr : List Nat) b, b < 5 → 5 ≤ z.1 → AS.get ⟨⟨z :: (6, .cells false x) :: (5, .cells false y) :: rest, len, es, wr⟩, nx⟩ b = getB rest b := fun z x y len nx es wr b hb hz => by
    show getB ((z.1, z.2) :: (6, _) :: (5, _) :: rest) b = _
    rw [getB_cons, if_neg (by omega), getB_cons, if_neg (by omega), getB_cons, if_neg (by omega)]
  have g8 : ∀ (z w : Nat × AObj) (x y : List AV) (len nx : Nat) (es : Option Nat) (wr : List Nat) b, b < 5 → 5 ≤ z.1 → 5 ≤ w.1 → AS.get ⟨⟨z :: w :: (6, .cells false x) :: (5, .cells false y) :: rest, len, es, wr⟩, nx⟩ b = getB rest b := fun z w x y len nx es wr b hb hz hw => by
    show getB ((z.1, z.2) :: (w.1, w.2) :: (6, _) :: (5, _) :: rest) b = _
    rw [getB_cons, if_neg (by omega), getB_cons, if_neg (by omega), getB_cons, if_neg (by omega), getB_cons, if_neg (by omega)]
  have s0 : S.get 0 = some (.cells r0 wf) := (gS 0 (by decide)).trans h0
  have sh := (gS bh lh).trans gh
  have se := (gS be le).trans ge
  have st := (gS bt lt).trans gt
  have c12 := u12 (fun b => .osl b 0 ne 6) (fun b => .osl b 0 nt 10) (rowsOf enC (Le.take ne)) (rowsOf thC (Lt.take nt)) ne nt (enL Le) (thL Lt) fE fT tr l.A l.H l.ep 7 8 S false false rfl rfl
  have c13 := u13 E T ce ct ne nt (enL Le) (thL Lt) fe ft l.A l.H l.ep be bt S re rt se st
  have c14 := u14 (fun _ => .nilSlice) (wf) nh (wdL Lh) fH (fun k _ => hw k) 0 S r0 r0 s0 s0
  have c15 := u15 H ch nh (wdL Lh) fh (fun k _ => hw k) bh S rh r0 sh s0
  have c16 := u16 (fun _ => .nilSlice) (fun b => .osl b 0 ne 6) (fun b => .osl b 0 nt 10) (wf) (rowsOf enC (Le.take ne)) (rowsOf thC (Lt.take nt)) nh ne nt (wdL Lh) (enL Le) (thL Lt) fH (fun k _ => hw k) fE fT tr l 0 7 8 S r0 false false r0 rfl rfl s0 s0
  have c17 := u17 H E T ch ce ct nh ne nt (wdL Lh) (enL Le) (thL Lt) fh (fun k _ => hw k) fe ft l bh be bt S r0 re rt rh se st sh s0
  have c18 := u18 H E T (fun _ => .nilSlice) (fun b => .osl b 0 ne 6) (fun b => .osl b 0 nt 10) ch ce ct (wf) (rowsOf enC (Le.take ne)) (rowsOf thC (Lt.take nt)) nh ne nt (wdL Lh) (enL Le) (thL Lt) fh fe ft fH fE fT l bh be bt 0 7 8 S re rt rh false false r0 se st sh rfl rfl s0
  exact ⟨_, _, runX_sound mixed none_sound (bl_m011 l (H bh) (E be) (T bt) ([]) (rowsOf enC (Le.take ne)) (rowsOf thC (Lt.take nt)) nh ne nt (tmF (cl l.A) (cl l.H) + 3 * cl l.A) (IB l.A l.H (enL Le) (thL Lt) ne nt) (U (wdL Lh) nh) (FB l (wdL Lh) (enL Le) (thL Lt) nh ne nt) rest)
    ⟨(fh.row bh).len _, len_q _ nh60, (fe.row be).len _, len_q _ ne60, (ft.row bt).len _, len_q _ nt60, ⟨sto_look rfl rfl l _ _ _ yh ye yt oh oe ot, rfl⟩, (ah.2 _ (fun b hb => g6 _ _ _ _ _ _ b hb)), (ae.2.2 _ (fun b hb => g6 _ _ _ _ _ _ b hb)), (at_.2.2 _ (fun b hb => g7 _ _ _ _ _ _ _ b hb (Nat.le_of_ble_eq_true rfl))), fun s _ => hp_call _ _ s, fun s _ => rhp_call _ _ s, ne_self _, c12, c13, ne_self _, c14, c15, ne_self _, c16, c17, by simp [Qst.ok], c18, lives35_call S (hasG_ofB s0), trivial⟩⟩
theorem bl_case100 (H E T : Nat → AV) (bh be bt : Nat) (ch ce ct : List AV) (rh re rt : Bool) (fh : Fam 27 24 H ch nh (fun k => .int .u64 (Int.ofNat (wdL Lh k)))) (fe : Fam 28 97 E ce ne (fun k => .agg (enC (enL Le k)))) (ft : Fam 29 101 T ct nt (fun k => .agg (thC (thL Lt k))))
    (lh : bh < 5) (le : be < 5) (lt : bt < 5) (gh : getB rest bh = some (.cells rh ch)) (ge : getB rest be = some (.cells re ce)) (gt : getB rest bt = some (.cells rt ct))
    (yh : AV.young 6 (H bh) = false) (ye : AV.young 6 (E be) = false) (yt : AV.young 6 (T bt) = false) (oh : AV.one (H bh) = true) (oe : AV.one (E be) = true) (ot : AV.one (T bt) = true)
    (ah : 0 < nh ∧ nh ≤ Lh.length ∧ ∀ s : AS, (∀ b, b < 5 → s.get b = getB rest b) → appendA Tryd.prog s 27 27 .nilSlice (H bh) = some (.osl s.nx 0 nh 1, s.push (.cells false (rowsOf wcellB (Lh.take nh)))))
    (ae : ne = 0 ∧ ∀ s : AS, (∀ b, b < 5 → s.get b = getB rest b) → appendA Tryd.prog s 28 28 .nilSlice (E be) = some (.nilSlice, s))
    (at_ : nt = 0 ∧ ∀ s : AS, (∀ b, b < 5 → s.get b = getB rest b) → appendA Tryd.prog s 29 29 .nilSlice (T bt) = some (.nilSlice, s)) :
    ∃ e s1, Sound Tryd.prog (.call 3 [.agg (lkC l (H bh) (E be) (T bt))] ⟨⟨rest, 5, none, []⟩, 5⟩) ⟨e, [.bool true], s1⟩ := by
  have fH := famH_o Lh nh ah.2.1 (by omega)
  have fE := fam_nil t28B wf (by kernel_rfl) (fun k => .agg (enC (enL Le k)))
  rw [← ae.1] at fE
  have fT := fam_nil t29 wf (by kernel_rfl) (fun k => .agg (thC (thL Lt k)))
  rw [← at_.1] at fT
  have tr := trow_n wf (thL Lt)
  rw [← at_.1] at tr
  let S : AS := ⟨⟨[(7, .cells false (rowsOf wcellB (Lh.take nh))), (6, .cells false (lkC l (.osl 7 0 nh 1) (.nilSlice) (.nilSlice))), (5, .cells false (lkC l (H bh) (E be) (T bt)))] ++ rest, 8, some 6, [6, 6, 6, 6]⟩, 8⟩
  have gS : ∀ b, b < 5 → S.get b = getB rest b := fun b hb => by
    show getB ([(7, .cells false (rowsOf wcellB (Lh.take nh))), (6, .cells false (lkC l (.osl 7 0 nh 1) (.nilSlice) (.nilSlice))), (5, .cells false (lkC l (H bh) (E be) (T bt)))] ++ rest) b = _
    simp only [List.cons_append, List.nil_append]
    rw [getB_cons, if_neg (by omega), getB_cons, if_neg (by omega), getB_cons, if_neg (by omega)]
  have g6 : ∀ (x y : List AV) (len nx : Nat) (es : Option Nat) (wr : List Nat) b, b < 5 → AS.get ⟨⟨(6, .cells false x) :: (5, .cells false y) :: rest, len, es, wr⟩, nx⟩ b = getB rest b := fun x y len nx es wr b hb => by
    show getB ((6, _) :: (5, _) :: rest) b = _
    rw [getB_cons, if_neg (by omega), getB_cons, if_neg (by omega)]
  have g7 : ∀ (z : Nat × AObj) (x y : List AV) (len nx : Nat) (es : Option Nat) (wr : List Nat) b, b < 5 → 5 ≤ z.1 → AS.get ⟨⟨z :: (6, .cells false x) :: (5, .cells false y) :: rest, len, es, wr⟩, nx⟩ b = getB rest b := fun z x y len nx es wr b hb hz => by
    show getB ((z.1, z.2) :: (6, _) :: (5, _) :: rest) b = _
    rw [getB_cons, if_neg (by omega), getB_cons, if_neg (by omega), getB_cons, if_neg (by omega)]
  have g8 : ∀ (z w : Nat × AObj) (x y : List AV) (len nx : Nat) (es : Option Nat) (wr : List Nat) b, b < 5 → 5 ≤ z.1 → 5 ≤ w.1 → AS.get ⟨⟨z :: w :: (6, .cells false x) :: (5, .cells false y) :: rest, len, es, wr⟩, nx⟩ b = getB rest b := fun z w x y len nx es wr b hb hz hw => by
    show getB ((z.1, z.2) :: (w.1, w.2) :: (6, _) :: (5, _) :: rest) b = _
    rw [getB_cons, if_neg (by omega), getB_cons, if_neg (by omega), getB_cons, if_neg (by omega), getB_cons, if_neg (by omega)]
  have s0 : S.get 0 = some (.cells r0 wf) := (gS 0 (by decide)).trans h0
  have sh := (gS bh lh).trans gh
  have se := (gS be le).trans ge
  have st := (gS bt lt).trans gt
  have c12 := u12 (fun _ => .nilSlice) (fun _ => .nilSlice) (wf) (wf) ne nt (enL Le) (thL Lt) fE fT tr l.A l.H l.ep 0 0 S r0 r0 s0 s0
  have c13 := u13 E T ce ct ne nt (enL Le) (thL Lt) fe ft l.A l.H l.ep be bt S re rt se st
  have c14 := u14 (fun b => .osl b 0 nh 1) (rowsOf wcellB (Lh.take nh)) nh (wdL Lh) fH (fun k _ => hw k) 7 S false r0 rfl s0
  have c15 := u15 H ch nh (wdL Lh) fh (fun k _ => hw k) bh S rh r0 sh s0
  have c16 := u16 (fun b => .osl b 0 nh 1) (fun _ => .nilSlice) (fun _ => .nilSlice) (rowsOf wcellB (Lh.take nh)) (wf) (wf) nh ne nt (wdL Lh) (enL Le) (thL Lt) fH (fun k _ => hw k) fE fT tr l 7 0 0 S r0 r0 r0 false s0 s0 rfl s0
  have c17 := u17 H E T ch ce ct nh ne nt (wdL Lh) (enL Le) (thL Lt) fh (fun k _ => hw k) fe ft l bh be bt S r0 re rt rh se st sh s0
  have c18 := u18 H E T (fun b => .osl b 0 nh 1) (fun _ => .nilSlice) (fun _ => .nilSlice) ch ce ct (rowsOf wcellB (Lh.take nh)) (wf) (wf) nh ne nt (wdL Lh) (enL Le) (thL Lt) fh fe ft fH fE fT l bh be bt 7 0 0 S re rt rh r0 r0 false se st sh s0 s0 rfl
  exact ⟨_, _, runX_sound mixed none_sound (bl_m100 l (H bh) (E be) (T bt) (rowsOf wcellB (Lh.take nh)) ([]) ([]) nh ne nt (tmF (cl l.A) (cl l.H) + 3 * cl l.A) (IB l.A l.H (enL Le) (thL Lt) ne nt) (U (wdL Lh) nh) (FB l (wdL Lh) (enL Le) (thL Lt) nh ne nt) rest)
    ⟨(fh.row bh).len _, len_q _ nh60, (fe.row be).len _, len_q _ ne60, (ft.row bt).len _, len_q _ nt60, ⟨sto_look rfl rfl l _ _ _ yh ye yt oh oe ot, rfl⟩, (ah.2.2 _ (fun b hb => g6 _ _ _ _ _ _ b hb)), (ae.2 _ (fun b hb => g7 _ _ _ _ _ _ _ b hb (Nat.le_of_ble_eq_true rfl))), (at_.2 _ (fun b hb => g7 _ _ _ _ _ _ _ b hb (Nat.le_of_ble_eq_true rfl))), fun s _ => hp_call _ _ s, fun s _ => rhp_call _ _ s, ne_self _, c12, c13, ne_self _, c14, c15, ne_self _, c16, c17, by simp [Qst.ok], c18, lives35_call S (hasG_ofB s0), trivial⟩⟩
theorem bl_case101 (H E T : Nat → AV) (bh be bt : Nat) (ch ce ct : List AV) (rh re rt : Bool) (fh : Fam 27 24 H ch nh (fun k => .int .u64 (Int.ofNat (wdL Lh k)))) (fe : Fam 28 97 E ce ne (fun k => .agg (enC (enL Le k)))) (ft : Fam 29 101 T ct nt (fun k => .agg (thC (thL Lt k))))
    (lh : bh < 5) (le : be < 5) (lt : bt < 5) (gh : getB rest bh = some (.cells rh ch)) (ge : getB rest be = some (.cells re ce)) (gt : getB rest bt = some (.cells rt ct))
    (yh : AV.young 6 (H bh) = false) (ye : AV.young 6 (E be) = false) (yt : AV.young 6 (T bt) = false) (oh : AV.one (H bh) = true) (oe : AV.one (E be) = true) (ot : AV.one (T bt) = true)
    (ah : 0 < nh ∧ nh ≤ Lh.length ∧ ∀ s : AS, (∀ b, b < 5 → s.get b = getB rest b) → appendA Tryd.prog s 27 27 .nilSlice (H bh) = some (.osl s.nx 0 nh 1, s.push (.cells false (rowsOf wcellB (Lh.take nh)))))
    (ae : ne = 0 ∧ ∀ s : AS, (∀ b, b < 5 → s.get b = getB rest b) → appendA Tryd.prog s 28 28 .nilSlice (E be) = some (.nilSlice, s))
    (at_ : 0 < nt ∧ nt ≤ Lt.length ∧ ∀ s : AS, (∀ b, b < 5 → s.get b = getB rest b) → appendA Tryd.prog s 29 29 .nilSlice (T bt) = some (.osl s.nx 0 nt 10, s.push (.cells false (rowsOf thC (Lt.take nt))))) :
    ∃ e s1, Sound Tryd.prog (.call 3 [.agg (lkC l (H bh) (E be) (T bt))] ⟨⟨rest, 5, none, []⟩, 5⟩) ⟨e, [.bool true], s1⟩ := by
  have fH := famH_o Lh nh ah.2.1 (by omega)
  have fE := fam_nil t28B wf (by kernel_rfl) (fun k => .agg (enC (enL Le k)))
  rw [← ae.1] at fE
  have fT := famT_o Lt nt at_.2.1 (by omega)
  have tr := trow_o Lt nt at_.2.1 (by omega)
  let S : AS := ⟨⟨[(8, .cells false (rowsOf thC (Lt.take nt))), (7, .cells false (rowsOf wcellB (Lh.take nh))), (6, .cells false (lkC l (.osl 7 0 nh 1) (.nilSlice) (.osl 8 0 nt 10))), (5, .cells false (lkC l (H bh) (E be) (T bt)))] ++ rest, 9, some 6, [6, 6, 6, 6]⟩, 9⟩
  have gS : ∀ b, b < 5 → S.get b = getB rest b := fun b hb => by
    show getB ([(8, .cells false (rowsOf thC (Lt.take nt))), (7, .cells false (rowsOf wcellB (Lh.take nh))), (6, .cells false (lkC l (.osl 7 0 nh 1) (.nilSlice) (.osl 8 0 nt 10))), (5, .cells false (lkC l (H bh) (E be) (T bt)))] ++ rest) b = _
    simp only [List.cons_append, List.nil_append]
    rw [getB_cons, if_neg (by omega), getB_cons, if_neg (by omega), getB_cons, if_neg (by omega), getB_cons, if_neg (by omega)]
  have g6 : ∀ (x y : List AV) (len nx : Nat) (es : Option Nat) (wr : List Nat) b, b < 5 → AS.get ⟨⟨(6, .cells false x) :: (5, .cells false y) :: rest, len, es, wr⟩, nx⟩ b = getB rest b := fun x y len nx es wr b hb => by
    show getB ((6, _) :: (5, _) :: rest) b = _
    rw [getB_cons, if_neg (by omega), getB_cons, if_neg (by omega)]
  have g7 : ∀ (z : Nat × AObj) (x y : List AV) (len nx : Nat) (es : Option Nat) (wr : List Nat) b, b < 5 → 5 ≤ z.1 → AS.get ⟨⟨z :: (6, .cells false x) :: (5, .cells false y) :: rest, len, es, wr⟩, nx⟩ b = getB rest b := fun z x y len nx es wr b hb hz => by
    show getB ((z.1, z.2) :: (6, _) :: (5, _) :: rest) b = _
    rw [getB_cons, if_neg (by omega), getB_cons, if_neg (by omega), getB_cons, if_neg (by omega)]
  have g8 : ∀ (z w : Nat × AObj) (x y : List AV) (len nx : Nat) (es : Option Nat) (wr : List Nat) b, b < 5 → 5 ≤ z.1 → 5 ≤ w.1 → AS.get ⟨⟨z :: w :: (6, .cells false x) :: (5, .cells false y) :: rest, len, es, wr⟩, nx⟩ b = getB rest b := fun z w x y len nx es wr b hb hz hw => by
    show getB ((z.1, z.2) :: (w.1, w.2) :: (6, _) :: (5, _) :: rest) b = _
    rw [getB_cons, if_neg (by omega), getB_cons, if_neg (by omega), getB_cons, if_neg (by omega), getB_cons, if_neg (by omega)]
  have s0 : S.get 0 = some (.cells r0 wf) := (gS 0 (by decide)).trans h0
  have sh := (gS bh lh).trans gh
  have se := (gS be le).trans ge
  have st := (gS bt lt).trans gt
  have c12 := u12 (fun _ => .nilSlice) (fun b => .osl b 0 nt 10) (wf) (rowsOf thC (Lt.take nt)) ne nt (enL Le) (thL Lt) fE fT tr l.A l.H l.ep 0 8 S r0 false s0 rfl
  have c13 := u13 E T ce ct ne nt (enL Le) (thL Lt) fe ft l.A l.H l.ep be bt S re rt se st
  have c14 := u14 (fun b => .osl b 0 nh 1) (rowsOf wcellB (Lh.take nh)) nh (wdL Lh) fH (fun k _ => hw k) 7 S false r0 rfl s0
  have c15 := u15 H ch nh (wdL Lh) fh (fun k _ => hw k) bh S rh r0 sh s0
  have c16 := u16 (fun b => .osl b 0 nh 1) (fun _ => .nilSlice) (fun b => .osl b 0 nt 10) (rowsOf wcellB (Lh.take nh)) (wf) (rowsOf thC (Lt.take nt)) nh ne nt (wdL Lh) (enL Le) (thL Lt) fH (fun k _ => hw k) fE fT tr l 7 0 8 S r0 r0 false false s0 rfl rfl s0
  have c17 := u17 H E T ch ce ct nh ne nt (wdL Lh) (enL Le) (thL Lt) fh (fun k _ => hw k) fe ft l bh be bt S r0 re rt rh se st sh s0
  have c18 := u18 H E T (fun b => .osl b 0 nh 1) (fun _ => .nilSlice) (fun b => .osl b 0 nt 10) ch ce ct (rowsOf wcellB (Lh.take nh)) (wf) (rowsOf thC (Lt.take nt)) nh ne nt (wdL Lh) (enL Le) (thL Lt) fh fe ft fH fE fT l bh be bt 7 0 8 S re rt rh r0 false false se st sh s0 rfl rfl
  exact ⟨_, _, runX_sound mixed none_sound (bl_m101 l (H bh) (E be) (T bt) (rowsOf wcellB (Lh.take nh)) ([]) (rowsOf thC (Lt.take nt)) nh ne nt (tmF (cl l.A) (cl l.H) + 3 * cl l.A) (IB l.A l.H (enL Le) (thL Lt) ne nt) (U (wdL Lh) nh) (FB l (wdL Lh) (enL Le) (thL Lt) nh ne nt) rest)
    ⟨(fh.row bh).len _, len_q _ nh60, (fe.row be).len _, len_q _ ne60, (ft.row bt).len _, len_q _ nt60, ⟨sto_look rfl rfl l _ _ _ yh ye yt oh oe ot, rfl⟩, (ah.2.2 _ (fun b hb => g6 _ _ _ _ _ _ b hb)), (ae.2 _ (fun b hb => g7 _ _ _ _ _ _ _ b hb (Nat.le_of_ble_eq_true rfl))), (at_.2.2 _ (fun b hb => g7 _ _ _ _ _ _ _ b hb (Nat.le_of_ble_eq_true rfl))), fun s _ => hp_call _ _ s, fun s _ => rhp_call _ _ s, ne_self _, c12, c13, ne_self _, c14, c15, ne_self _, c16, c17, by simp [Qst.ok], c18, lives35_call S (hasG_ofB s0), trivial⟩⟩
theorem bl_case110 (H E T : Nat → AV) (bh be bt : Nat) (ch ce ct : List AV) (rh re rt : Bool) (fh : Fam 27 24 H ch nh (fun k => .int .u64 (Int.ofNat (wdL Lh k)))) (fe : Fam 28 97 E ce ne (fun k => .agg (enC (enL Le k)))) (ft : Fam 29 101 T ct nt (fun k => .agg (thC (thL Lt k))))
    (lh : bh < 5) (le : be < 5) (lt : bt < 5) (gh : getB rest bh = some (.cells rh ch)) (ge : getB rest be = some (.cells re ce)) (gt : getB rest bt = some (.cells rt ct))
    (yh : AV.young 6 (H bh) = false) (ye : AV.young 6 (E be) = false) (yt : AV.young 6 (T bt) = false) (oh : AV.one (H bh) = true) (oe : AV.one (E be) = true) (ot : AV.one (T bt) = true)
    (ah : 0 < nh ∧ nh ≤ Lh.length ∧ ∀ s : AS, (∀ b, b < 5 → s.get b = getB rest b) → appendA Tryd.prog s 27 27 .nilSlice (H bh) = some (.osl s.nx 0 nh 1, s.push (.cells false (rowsOf wcellB (Lh.take nh)))))
    (ae : 0 < ne ∧ ne ≤ Le.length ∧ ∀ s : AS, (∀ b, b < 5 → s.get b = getB rest b) → appendA Tryd.prog s 28 28 .nilSlice (E be) = some (.osl s.nx 0 ne 6, s.push (.cells false (rowsOf enC (Le.take ne)))))
    (at_ : nt = 0 ∧ ∀ s : AS, (∀ b, b < 5 → s.get b = getB rest b) → appendA Tryd.prog s 29 29 .nilSlice (T bt) = some (.nilSlice, s)) :
    ∃ e s1, Sound Tryd.prog (.call 3 [.agg (lkC l (H bh) (E be) (T bt))] ⟨⟨rest, 5, none, []⟩, 5⟩) ⟨e, [.bool true], s1⟩ := by
  have fH := famH_o Lh nh ah.2.1 (by omega)
  have fE := famE_o Le ne ae.2.1 (by omega)
  have fT := fam_nil t29 wf (by kernel_rfl) (fun k => .agg (thC (thL Lt k)))
  rw [← at_.1] at fT
  have tr := trow_n wf (thL Lt)
  rw [← at_.1] at tr
  let S : AS := ⟨⟨[(8, .cells false (rowsOf enC (Le.take ne))), (7, .cells false (rowsOf wcellB (Lh.take nh))), (6, .cells false (lkC l (.osl 7 0 nh 1) (.osl 8 0 ne 6) (.nilSlice))), (5, .cells false (lkC l (H bh) (E be) (T bt)))] ++ rest, 9, some 6, [6, 6, 6, 6]⟩, 9⟩
  have gS : ∀ b, b < 5 → S.get b = getB rest b := fun b hb => by
    show getB ([(8, .cells false (rowsOf enC (Le.take ne))), (7, .cells false (rowsOf wcellB (Lh.take nh))), (6, .cells false (lkC l (.osl 7 0 nh 1) (.osl 8 0 ne 6) (.nilSlice))), (5, .cells false (lkC l (H bh) (E be) (T bt)))] ++ rest) b = _
    simp only [List.cons_append, List.nil_append]
    rw [getB_cons, if_neg (by omega), getB_cons, if_neg (by omega), getB_cons, if_neg (by omega), getB_cons, if_neg (by omega)]
  have g6 : ∀ (x y : List AV) (len nx : Nat) (es : Option Nat) (wr : List Nat) b, b < 5 → AS.get ⟨⟨(6, .cells false x) :: (5, .cells false y) :: rest, len, es, wr⟩, nx⟩ b = getB rest b := fun x y len nx es wr b hb => by
    show getB ((6, _) :: (5, _) :: rest) b = _
    rw [getB_cons, if_neg (by omega), getB_cons, if_neg (by omega)]
  have g7 : ∀ (z : Nat × AObj) (x y : List AV) (len nx : Nat) (es : Option Nat) (wr : List Nat) b, b < 5 → 5 ≤ z.1 → AS.get ⟨⟨z :: (6, .cells false x) :: (5, .cells false y) :: rest, len, es, wr⟩, nx⟩ b = getB rest b := fun z x y len nx es wr b hb hz => by
    show getB ((z.1, z.2) :: (6, _) :: (5, _) :: rest) b = _
    rw [getB_cons, if_neg (by omega), getB_cons, if_neg (by omega), getB_cons, if_neg (by omega)]
  have g8 : ∀ (z w : Nat × AObj) (x y : List AV) (len nx : Nat) (es : Option Nat) (wr : List Nat) b, b < 5 → 5 ≤ z.1 → 5 ≤ w.1 → AS.get ⟨⟨z :: w :: (6, .cells false x) :: (5, .cells false y) :: rest, len, es, wr⟩, nx⟩ b = getB rest b := fun z w x y len nx es wr b hb hz hw => by
    show getB ((z.1, z.2) :: (w.1, w.2) :: (6, _) :: (5, _) :: rest) b = _
    rw [getB_cons, if_neg (by omega), getB_cons, if_neg (by omega), getB_cons, if_neg (by omega), getB_cons, if_neg (by omega)]
  have s0 : S.get 0 = some (.cells r0 wf) := (gS 0 (by decide)).trans h0
  have sh := (gS bh lh).trans gh
  have se := (gS be le).trans ge
  have st := (gS bt lt).trans gt
  have c12 := u12 (fun b => .osl b 0 ne 6) (fun _ => .nilSlice) (rowsOf enC (Le.take ne)) (wf) ne nt (enL Le) (thL Lt) fE fT tr l.A l.H l.ep 8 0 S false r0 rfl s0
  have c13 := u13 E T ce ct ne nt (enL Le) (thL Lt) fe ft l.A l.H l.ep be bt S re rt se st
  have c14 := u14 (fun b => .osl b 0 nh 1) (rowsOf wcellB (Lh.take nh)) nh (wdL Lh) fH (fun k _ => hw k) 7 S false r0 rfl s0
  have c15 := u15 H ch nh (wdL Lh) fh (fun k _ => hw k) bh S rh r0 sh s0
  have c16 := u16 (fun b => .osl b 0 nh 1) (fun b => .osl b 0 ne 6) (fun _ => .nilSlice) (rowsOf wcellB (Lh.take nh)) (rowsOf enC (Le.take ne)) (wf) nh ne nt (wdL Lh) (enL Le) (thL Lt) fH (fun k _ => hw k) fE fT tr l 7 8 0 S r0 false r0 false rfl s0 rfl s0
  have c17 := u17 H E T ch ce ct nh ne nt (wdL Lh) (enL Le) (thL Lt) fh (fun k _ => hw k) fe ft l bh be bt S r0 re rt rh se st sh s0
  have c18 := u18 H E T (fun b => .osl b 0 nh 1) (fun b => .osl b 0 ne 6) (fun _ => .nilSlice) ch ce ct (rowsOf wcellB (Lh.take nh)) (rowsOf enC (Le.take ne)) (wf) nh ne nt (wdL Lh) (enL Le) (thL Lt) fh fe ft fH fE fT l bh be bt 7 8 0 S re rt rh false r0 false se st sh rfl s0 rfl
  exact ⟨_, _, runX_sound mixed none_sound (bl_m110 l (H bh) (E be) (T bt) (rowsOf wcellB (Lh.take nh)) (rowsOf enC (Le.take ne)) ([]) nh ne nt (tmF (cl l.A) (cl l.H) + 3 * cl l.A) (IB l.A l.H (enL Le) (thL Lt) ne nt) (U (wdL Lh) nh) (FB l (wdL Lh) (enL Le) (thL Lt) nh ne nt) rest)
    ⟨(fh.row bh).len _, len_q _ nh60, (fe.row be).len _, len_q _ ne60, (ft.row bt).len _, len_q _ nt60, ⟨sto_look rfl rfl l _ _ _ yh ye yt oh oe ot, rfl⟩, (ah.2.2 _ (fun b hb => g6 _ _ _ _ _ _ b hb)), (ae.2.2 _ (fun b hb => g7 _ _ _ _ _ _ _ b hb (Nat.le_of_ble_eq_true rfl))), (at_.2 _ (fun b hb => g8 _ _ _ _ _ _ _ _ b hb (Nat.le_of_ble_eq_true rfl) (Nat.le_of_ble_eq_true rfl))), fun s _ => hp_call _ _ s, fun s _ => rhp_call _ _ s, ne_self _, c12, c13, ne_self _, c14, c15, ne_self _, c16, c17, by simp [Qst.ok], c18, lives35_call S (hasG_ofB s0), trivial⟩⟩
theorem bl_case111 (H E T : Nat → AV) (bh be bt : Nat) (ch ce ct : List AV) (rh re rt : Bool) (fh : Fam 27 24 H ch nh (fun k => .int .u64 (Int.ofNat (wdL Lh k)))) (fe : Fam 28 97 E ce ne (fun k => .agg (enC (enL Le k)))) (ft : Fam 29 101 T ct nt (fun k => .agg (thC (thL Lt k))))
    (lh : bh < 5) (le : be < 5) (lt : bt < 5) (gh : getB rest bh = some (.cells rh ch)) (ge : getB rest be = some (.cells re ce)) (gt : getB rest bt = some (.cells rt ct))
    (yh : AV.young 6 (H bh) = false) (ye : AV.young 6 (E be) = false) (yt : AV.young 6 (T bt) = false) (oh : AV.one (H bh) = true) (oe : AV.one (E be) = true) (ot : AV.one (T bt) = true)
    (ah : 0 < nh ∧ nh ≤ Lh.length ∧ ∀ s : AS, (∀ b, b < 5 → s.get b = getB rest b) → appendA Tryd.prog s 27 27 .nilSlice (H bh) = some (.osl s.nx 0 nh 1, s.push (.cells false (rowsOf wcellB (Lh.take nh)))))
    (ae : 0 < ne ∧ ne ≤ Le.length ∧ ∀ s : AS, (∀ b, b < 5 → s.get b = getB rest b) → appendA Tryd.prog s 28 28 .nilSlice (E be) = some (.osl s.nx 0 ne 6, s.push (.cells false (rowsOf enC (Le.take ne)))))
    (at_ : 0 < nt ∧ nt ≤ Lt.length ∧ ∀ s : AS, (∀ b, b < 5 → s.get b = getB rest b) → appendA Tryd.prog s 29 29 .nilSlice (T bt) = some (.osl s.nx 0 nt 10, s.push (.cells false (rowsOf thC (Lt.take nt))))) :
    ∃ e s1, Sound Tryd.prog (.call 3 [.agg (lkC l (H bh) (E be) (T bt))] ⟨⟨rest, 5, none, []⟩, 5⟩) ⟨e, [.bool true], s1⟩ := by
  have fH := famH_o Lh nh ah.2.1 (by omega)
  have fE := famE_o Le ne ae.2.1 (by omega)
  have fT := famT_o Lt nt at_.2.1 (by omega)
  have tr := trow_o Lt nt at_.2.1 (by omega)
  let S : AS := ⟨⟨[(9, .cells false (rowsOf thC (Lt.take nt))), (8, .cells false (rowsOf enC (Le.take ne))), (7, .cells false (rowsOf wcellB (Lh.take nh))), (6, .cells false (lkC l (.osl 7 0 nh 1) (.osl 8 0 ne 6) (.osl 9 0 nt 10))), (5, .cells false (lkC l (H bh) (E be) (T bt)))] ++ rest, 10, some 6, [6, 6, 6, 6]⟩, 10⟩
  have gS : ∀ b, b < 5 → S.get b = getB rest b := fun b hb => by
    show getB ([(9, .cells false (rowsOf thC (Lt.take nt))), (8, .cells false (rowsOf enC (Le.take ne))), (7, .cells false (rowsOf wcellB (Lh.take nh))), (6, .cells false (lkC l (.osl 7 0 nh 1) (.osl 8 0 ne 6) (.osl 9 0 nt 10))), (5, .cells false (lkC l (H bh) (E be) (T bt)))] ++ rest) b = _
    simp only [List.cons_append, List.nil_append]
    rw [getB_cons, if_neg (by omega), getB_cons, if_neg (by omega), getB_cons, if_neg (by omega), getB_cons, if_neg (by omega), getB_cons, if_neg (by omega)]
  have g6 : ∀ (x y : List AV) (len nx : Nat) (es : Option Nat) (wr : List Nat) b, b < 5 → AS.get ⟨⟨(6, .cells false x) :: (5, .cells false y) :: rest, len, es, wr⟩, nx⟩ b = getB rest b := fun x y len nx es wr b hb => by
    show getB ((6, _) :: (5, _) :: rest) b = _
    rw [getB_cons, if_neg (by omega), getB_cons, if_neg (by omega)]
  have g7 : ∀ (z : Nat × AObj) (x y : List AV) (len nx : Nat) (es : Option Nat) (wr : List Nat) b, b < 5 → 5 ≤ z.1 → AS.get ⟨⟨z :: (6, .cells false x) :: (5, .cells false y) :: rest, len, es, wr⟩, nx⟩ b = getB rest b := fun z x y len nx es wr b hb hz => by
    show getB ((z.1, z.2) :: (6, _) :: (5, _) :: rest) b = _
    rw [getB_cons, if_neg (by omega), getB_cons, if_neg (by omega), getB_cons, if_neg (by omega)]
  have g8 : ∀ (z w : Nat × AObj) (x y : List AV) (len nx : Nat) (es : Option Nat) (wr : List Nat) b, b < 5 → 5 ≤ z.1 → 5 ≤ w.1 → AS.get ⟨⟨z :: w :: (6, .cells false x) :: (5, .cells false y) :: rest, len, es, wr⟩, nx⟩ b = getB rest b := fun z w x y len nx es wr b hb hz hw => by
    show getB ((z.1, z.2) :: (w.1, w.2) :: (6, _) :: (5, _) :: rest) b = _
    rw [getB_cons, if_neg (by omega), getB_cons, if_neg (by omega), getB_cons, if_neg (by omega), getB_cons, if_neg (by omega)]
  have s0 : S.get 0 = some (.cells r0 wf) := (gS 0 (by decide)).trans h0
  have sh := (gS bh lh).trans gh
  have se := (gS be le).trans ge
  have st := (gS bt lt).trans gt
  have c12 := u12 (fun b => .osl b 0 ne 6) (fun b => .osl b 0 nt 10) (rowsOf enC (Le.take ne)) (rowsOf thC (Lt.take nt)) ne nt (enL Le) (thL Lt) fE fT tr l.A l.H l.ep 8 9 S false false rfl rfl
  have c13 := u13 E T ce ct ne nt (enL Le) (thL Lt) fe ft l.A l.H l.ep be bt S re rt se st
  have c14 := u14 (fun b => .osl b 0 nh 1) (rowsOf wcellB (Lh.take nh)) nh (wdL Lh) fH (fun k _ => hw k) 7 S false r0 rfl s0
  have c15 := u15 H ch nh (wdL Lh) fh (fun k _ => hw k) bh S rh r0 sh s0
  have c16 := u16 (fun b => .osl b 0 nh 1) (fun b => .osl b 0 ne 6) (fun b => .osl b 0 nt 10) (rowsOf wcellB (Lh.take nh)) (rowsOf enC (Le.take ne)) (rowsOf thC (Lt.take nt)) nh ne nt (wdL Lh) (enL Le) (thL Lt) fH (fun k _ => hw k) fE fT tr l 7 8 9 S r0 false false false rfl rfl rfl s0
  have c17 := u17 H E T ch ce ct nh ne nt (wdL Lh) (enL Le) (thL Lt) fh (fun k _ => hw k) fe ft l bh be bt S r0 re rt rh se st sh s0
  have c18 := u18 H E T (fun b => .osl b 0 nh 1) (fun b => .osl b 0 ne 6) (fun b => .osl b 0 nt 10) ch ce ct (rowsOf wcellB (Lh.take nh)) (rowsOf enC (Le.take ne)) (rowsOf thC (Lt.take nt)) nh ne nt (wdL Lh) (enL Le) (thL Lt) fh fe ft fH fE fT l bh be bt 7 8 9 S re rt rh false false false se st sh rfl rfl rfl
  exact ⟨_, _, runX_sound mixed none_sound (bl_m111 l (H bh) (E be) (T bt) (rowsOf wcellB (Lh.take nh)) (rowsOf enC (Le.take ne)) (rowsOf thC (Lt.take nt)) nh ne nt (tmF (cl l.A) (cl l.H) + 3 * cl l.A) (IB l.A l.H (enL Le) (thL Lt) ne nt) (U (wdL Lh) nh) (FB l (wdL Lh) (enL Le) (thL Lt) nh ne nt) rest)
    ⟨(fh.row bh).len _, len_q _ nh60, (fe.row be).len _, len_q _ ne60, (ft.row bt).len _, len_q _ nt60, ⟨sto_look rfl rfl l _ _ _ yh ye yt oh oe ot, rfl⟩, (ah.2.2 _ (fun b hb => g6 _ _ _ _ _ _ b hb)), (ae.2.2 _ (fun b hb => g7 _ _ _ _ _ _ _ b hb (Nat.le_of_ble_eq_true rfl))), (at_.2.2 _ (fun b hb => g8 _ _ _ _ _ _ _ _ b hb (Nat.le_of_ble_eq_true rfl) (Nat.le_of_ble_eq_true rfl))), fun s _ => hp_call _ _ s, fun s _ => rhp_call _ _ s, ne_self _, c12, c13, ne_self _, c14, c15, ne_self _, c16, c17, by simp [Qst.ok], c18, lives35_call S (hasG_ofB s0), trivial⟩⟩
end
end Go.Proofs.YtipadnlhcnmgaaaDoor.boundsLook
