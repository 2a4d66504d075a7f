/- The shadow, wherever it lies. Conditions: those that each theorem names, and no others. -/
import Derived.Test.YtofbdgmknfbkfaaGreatDoorLife13
namespace Go.Proofs.YtofbdgmknfbkfaaGreatDoor.nodesLife
open Go Go.Mini
/-! ### the shadow, at canonical names -/
def acA (kn a0 a1 a2 : Int) (was is : Nat) (dn : Bool) : AV := .agg [.int .u8 kn, .int .u8 a0, .int .i64 a1, .int .i64 a2, .int .u64 (Int.ofNat was), .int .u64 (Int.ofNat is), .bool dn]
def shC (most : Nat) : List (Nat × AObj) := [(10, .cells false [.map 11, u32 most])]
section
variable (M : PM) (O OH OH2 : AObj) (most was is s g w o : Nat) (kn a0 a1 : Int) (dn : Bool)
def g_sw (a0 a2 : Int) (decs : List Dec) (qs : List QI) (OH2 : AObj) : GR := ⟨15, [.ptr 10 0, acA kn a0 a1 a2 was is dn], shC most, shC most, [], [], u8 0, decs, qs, [(11, OH)], [(11, OH2)], [], [(11, OH2)]⟩
def slD : List Dec := [.val 41 1 1 (.bool true), .val 41 1 4 (.bool true)]
def slQ : List QI := [vQ (.bool (decide (a1 ≥ 0))) (.bool true), vQ (.bool (decide (a1 < 256))) (.bool true)]
def heD (c : Bool) : List Dec := [.val 43 1 3 (u64 w), .pure 43 1 4 G (.tuple [u8 s, u32 g]), .val 43 2 2 (.bool c)]
def heQ (c : Bool) : List QI := [.lk 90 (.map 11) (i64 a1) false (u64 w) [(11, OH)], asrQ w s g, vQ (.bool (decide (Int.ofNat s = 1))) (.bool c)]
def g_sw1 (a2 : Int) : GR := g_sw OH most was is kn a1 dn a0 a2 [.val 15 1 6 (.bool true)] [vQ (.bool (a0 != 9)) (.bool true)] OH
def g_sw2a (a2 : Int) : GR := g_sw OH most was is kn a1 dn 9 a2 [.val 41 1 1 (.bool false)] [vQ (.bool (decide (a1 ≥ 0))) (.bool false)] OH
def g_sw2b (a2 : Int) : GR := g_sw OH most was is kn a1 dn 9 a2 [.val 41 1 1 (.bool true), .val 41 1 4 (.bool false)] [vQ (.bool (decide (a1 ≥ 0))) (.bool true), vQ (.bool (decide (a1 < 256))) (.bool false)] OH
def g_sw3 (f : Nat) : GR := g_sw OH most was is kn a1 dn 9 (Int.ofNat f) slD (slQ a1) OH
def g_sw4e : GR := g_sw OH most was is kn a1 dn 9 (Int.ofNat 0) (slD ++ [.eff 15 7 10 undefA (fun s => s.set 11 OH2), .val 15 8 4 (.bool false)]) (slQ a1 ++ [.upd 90 (.map 11) (i64 a1) (u64 is) (fun s => s.set 11 OH2) [(11, OH)], vQ (.bool (Int.ofNat is != Int.ofNat was)) (.bool false)]) OH2
def g_sw4n : GR := g_sw OH most was is kn a1 dn 9 (Int.ofNat 0) (slD ++ [.eff 15 7 10 undefA (fun s => s.set 11 OH2), .val 15 8 4 (.bool true), .pure 15 8 14 G2 (u8 o), .val 15 8 15 (.bool false)]) (slQ a1 ++ [.upd 90 (.map 11) (i64 a1) (u64 is) (fun s => s.set 11 OH2) [(11, OH)], vQ (.bool (Int.ofNat is != Int.ofNat was)) (.bool true), .fix (.pure G2 42 [u64 was, u64 is, u32 most] (u8 o)), vQ (.bool (decide (Int.ofNat o = 0))) (.bool false)]) OH2
def g_sw5y (f : Nat) : GR := g_sw OH most was is kn a1 dn 9 (Int.ofNat f) (slD ++ heD s g w true) (slQ a1 ++ heQ OH s g w a1 true) OH
def g_sw5n (f : Nat) : GR := g_sw OH most was is kn a1 dn 9 (Int.ofNat f) (slD ++ (heD s g w false ++ [.val 43 2 5 (.bool true)])) (slQ a1 ++ (heQ OH s g w a1 false ++ [vQ (.bool (decide (Int.ofNat s = 2))) (.bool true)])) OH
/-! fine, of -/
def g_fi (z : Int) (gr : Nat) (v : Bool) (decs : List Dec) (qs : List QI) : GR := ⟨18, [.ptr 10 0, refA z gr], shC most, shC most, [], [], .bool v, decs, qs, [(11, OH)], [(11, OH)], [], [(11, OH)]⟩
def g_fiy (gr : Nat) (v : Bool) : GR := g_fi OH most a1 gr v (heD s g w true ++ [.val 18 4 5 (.bool v)]) (heQ OH s g w a1 true ++ [vQ (.bool (decide (Int.ofNat g = Int.ofNat gr))) (.bool v)])
def g_fin (gr : Nat) (v : Bool) : GR := g_fi OH most a1 gr v (heD s g w false ++ [.val 43 2 5 (.bool true), .val 18 4 5 (.bool v)]) (heQ OH s g w a1 false ++ [vQ (.bool (decide (Int.ofNat s = 2))) (.bool true), vQ (.bool (decide (Int.ofNat g = Int.ofNat gr))) (.bool v)])
def g_fi0 (gr : Nat) : GR := g_fi OH most a1 gr false (heD s g w false ++ [.val 43 2 5 (.bool false)]) (heQ OH s g w a1 false ++ [vQ (.bool (decide (Int.ofNat s = 2))) (.bool false)])
def g_of : GR := ⟨16, [.ptr 10 0, i64 a1], shC most, shC most, [], [], .tuple [u8 s, u32 g], [.val 16 3 6 (u64 w), .pure 16 3 7 G (.tuple [u8 s, u32 g])], [.lk 90 (.map 11) (i64 a1) false (u64 w) [(11, OH)], asrQ w s g], [(11, OH)], [(11, OH)], [], [(11, OH)]⟩
end
def GrOk (g : GR) (M : PM) (O : AObj) : Prop := g.L (mo7 M) O = g.R (mo7 M) O (mo7 M) O ∧ g.stat = true
section
variable (M : PM) (O OH OH2 : AObj) (most was is s g w o : Nat) (kn a0 a1 : Int) (dn : Bool)
theorem k_sw1 (a2 : Int) : GrOk (g_sw1 OH most was is kn a0 a1 dn a2) M O := ⟨by kernel_rfl, by kernel_rfl⟩
theorem k_sw2a (a2 : Int) : GrOk (g_sw2a OH most was is kn a1 dn a2) M O := ⟨by kernel_rfl, by kernel_rfl⟩
theorem k_sw2b (a2 : Int) : GrOk (g_sw2b OH most was is kn a1 dn a2) M O := ⟨by kernel_rfl, by kernel_rfl⟩
theorem k_sw3 : ∀ f, 1 ≤ f → f ≤ 4 → GrOk (g_sw3 OH most was is kn a1 dn f) M O
  | 0, h, _ => absurd h (by decide)
  | 1, _, _ => ⟨by kernel_rfl, by kernel_rfl⟩
  | 2, _, _ => ⟨by kernel_rfl, by kernel_rfl⟩
  | 3, _, _ => ⟨by kernel_rfl, by kernel_rfl⟩
  | 4, _, _ => ⟨by kernel_rfl, by kernel_rfl⟩
  | f + 5, _, h => absurd h (by omega)
theorem k_sw4e : GrOk (g_sw4e OH OH2 most was is kn a1 dn) M O := ⟨by kernel_rfl, by kernel_rfl⟩
theorem k_sw4n : GrOk (g_sw4n OH OH2 most was is o kn a1 dn) M O := ⟨by kernel_rfl, by kernel_rfl⟩
theorem k_sw5y : ∀ f, 5 ≤ f → f ≤ 7 → GrOk (g_sw5y OH most was is s g w kn a1 dn f) M O
  | 5, _, _ => ⟨by kernel_rfl, by kernel_rfl⟩
  | 6, _, _ => ⟨by kernel_rfl, by kernel_rfl⟩
  | 7, _, _ => ⟨by kernel_rfl, by kernel_rfl⟩
  | 0, h, _ => absurd h (by decide)
  | 1, h, _ => absurd h (by decide)
  | 2, h, _ => absurd h (by decide)
  | 3, h, _ => absurd h (by decide)
  | 4, h, _ => absurd h (by decide)
  | f + 8, _, h => absurd h (by omega)
theorem k_sw5n : ∀ f, 5 ≤ f → f ≤ 7 → GrOk (g_sw5n OH most was is s g w kn a1 dn f) M O
  | 5, _, _ => ⟨by kernel_rfl, by kernel_rfl⟩
  | 6, _, _ => ⟨by kernel_rfl, by kernel_rfl⟩
  | 7, _, _ => ⟨by kernel_rfl, by kernel_rfl⟩
  | 0, h, _ => absurd h (by decide)
  | 1, h, _ => absurd h (by decide)
  | 2, h, _ => absurd h (by decide)
  | 3, h, _ => absurd h (by decide)
  | 4, h, _ => absurd h (by decide)
  | f + 8, _, h => absurd h (by omega)
theorem k_fiy (gr : Nat) (v : Bool) : GrOk (g_fiy OH most s g w a1 gr v) M O := ⟨by kernel_rfl, by kernel_rfl⟩
theorem k_fin (gr : Nat) (v : Bool) : GrOk (g_fin OH most s g w a1 gr v) M O := ⟨by kernel_rfl, by kernel_rfl⟩
theorem k_fi0 (gr : Nat) : GrOk (g_fi0 OH most s g w a1 gr) M O := ⟨by kernel_rfl, by kernel_rfl⟩
theorem k_of : GrOk (g_of OH most s g w a1) M O := ⟨by kernel_rfl, by kernel_rfl⟩
end
end Go.Proofs.YtofbdgmknfbkfaaGreatDoor.nodesLife
namespace Go.Proofs.YtofbdgmknfbkfaaGreatDoor.nodesLife
open Go Go.Mini
/-! ### the shadow, wherever it lies -/
def hsI (H : HS) : List (Int × Int) := H.map fun x => (x.1, Int.ofNat x.2)
def hsO (H : HS) (bn : List Nat) (ck : Nat) : AObj := .map (mapE .i64 .u64 (hsI H)) bn ck
def shB (most : Nat) (H : HS) (bn : List Nat) (ck : Nat) : List (Nat × AObj) := shC most ++ [(11, hsO H bn ck)]
theorem getH_I (n : Int) : ∀ H : HS, (getM (hsI H) n).getD 0 = Int.ofNat (getH H n)
  | [] => rfl
  | x :: t => by
    have ih := getH_I n t
    show (getM ((x.1, Int.ofNat x.2) :: hsI t) n).getD 0 = Int.ofNat (if n = x.1 then x.2 else getH t n)
    simp only [getM]
    split
    · rfl
    · exact ih
theorem putH_I (n : Int) (v : Nat) : ∀ H : HS, putM (hsI H) n (Int.ofNat v) = hsI (putH H n v)
  | [] => rfl
  | x :: t => by
    have ih := putH_I n v t
    show putM ((x.1, Int.ofNat x.2) :: hsI t) n (Int.ofNat v) = hsI (if x.1 = n then (x.1, v) :: t else x :: putH t n v)
    simp only [putM]
    by_cases h : n = x.1
    · rw [if_pos h, if_pos h.symm, h]
      rfl
    · rw [if_neg h, if_neg (fun e => h e.symm), ih]
      rfl
theorem mapE_names (p : Nat → Bool) : ∀ es : List (Int × Int), namesE p (mapE .i64 .u64 es) = true
  | [] => rfl
  | x :: t => by
    show ((true && true) && namesE p (mapE .i64 .u64 t)) = true
    rw [mapE_names p t]
    rfl
theorem hsO_names {H : HS} {bn : List Nat} {ck : Nat} (p : Nat → Bool) : (hsO H bn ck).names p = true := mapE_names p _
theorem uM : Tryz.prog.underlying 90 = some (.map 3 31) := by kernel_rfl
theorem uIn : Tryz.prog.underlying 3 = some (.int .i64) := by kernel_rfl
theorem zU6 : zeroA Tryz.prog 31 = some (.int .u64 0) := by kernel_rfl
theorem lk_hs {s : AS} {b : Nat} {H : HS} {bn : List Nat} {ck : Nat} {n : Int} (hs : s.get b = some (hsO H bn ck)) : lookupA Tryz.prog s 90 (.map b) (i64 n) false = some (u64 (getH H n)) := by
  have := lk_mapE (n := n) uM uIn zU6 hs false
  rw [getH_I] at this
  exact this
theorem upd_hs (H : HS) (bn : List Nat) (ck : Nat) (n : Int) (v b : Nat) : ∃ bn' ck', ∀ s : AS, s.get b = some (hsO H bn ck) → updateA Tryz.prog s 90 (.map b) (i64 n) (u64 v) = some (s.set b (hsO (putH H n v) bn' ck')) := by
  have hb : bitEq (.int .i64 n) (.int .i64 n) = true := by simp [bitEq, bitEq1]
  unfold hsO
  rw [← putH_I]
  by_cases h1 : getM (hsI H) n = none
  · refine ⟨bn ++ [ck], ck + 1, fun s hs => ?_⟩
    simp only [updateA, i64, u64, uM, key_num uIn, if_true, mapAt, hs]
    rcases find_mapE (P := Tryz.prog) (kt := 3) (kd := .i64) (vk := .u64) uIn (s := s) (n := n) (hsI H) 0 with ⟨_, h2⟩ | ⟨x, p, h3, h2, _⟩
    · rw [h2, Go.Mini.put_new n (Int.ofNat v) (hsI H) h1]
      simp only [AV.young, noteEsc, Bool.false_eq_true, if_false]
    · rw [h1] at h3
      cases h3
  · refine ⟨bn, ck, fun s hs => ?_⟩
    simp only [updateA, i64, u64, uM, key_num uIn, if_true, mapAt, hs]
    rcases find_mapE (P := Tryz.prog) (kt := 3) (kd := .i64) (vk := .u64) uIn (s := s) (n := n) (hsI H) 0 with ⟨h3, _⟩ | ⟨x, p, h3, h2, h4, _⟩
    · exact absurd h3 h1
    · rw [h2]
      simp only [hb, Bool.not_true, Bool.false_eq_true, if_false, AV.young, noteEsc, Nat.zero_add, h4]
theorem gr_sh {g : GR} {M : PM} {v : AV} {most : Nat} {H H' : HS} {bn bn' : List Nat} {ck ck' : Nat} (hk : GrOk g M (mapO M.ms)) (hq : QOk g.qs) (hw : g.w = v.ren (kl g.kl)) (h1 : g.C = shC most) (h1' : g.C' = shC most) (h2 : g.rc = [(11, hsO H bn ck)]) (h3 : g.ro = [(11, hsO H' bn' ck')]) (h4 : g.rn = []) (h5 : g.rc' = [(11, hsO H' bn' ck')]) : SF g.f g.args v M M (shB most H bn ck) (shB most H' bn' ck') (kl g.kl) := by
  have := gr_step (v := v) hk.1 hq hk.2 hw (fun y hy => by
    rw [h2] at hy
    rw [List.mem_singleton.1 hy]
    exact ⟨rfl, hsO_names _⟩) (fun y hy => by
    rw [h3] at hy
    rw [List.mem_singleton.1 hy]
    exact ⟨.inl rfl, hsO_names _⟩) (fun y hy => by
    rw [h4] at hy
    cases hy) (fun y hy => by
    rw [h5] at hy
    rw [List.mem_singleton.1 hy]
    exact hsO_names _)
  rw [h1, h1', h2, h5] at this
  exact this
section
variable {M : PM} {most was is : Nat} {H : HS} {bn : List Nat} {ck : Nat} {kn : Int} {dn : Bool}
theorem sl_ok {a1 : Int} (h : 0 ≤ a1 ∧ a1 < 256) {l : List QI} (hl : QOk l) : QOk (slQ a1 ++ l) := vb_ok h.1 (vb_ok h.2 hl)
theorem lkq_ok {a1 : Int} {l : List QI} (hl : QOk l) : QOk (.lk 90 (.map 11) (i64 a1) false (u64 (getH H a1)) [(11, hsO H bn ck)] :: l) := ⟨fun s hs => lk_hs (hs (11, hsO H bn ck) (by simp)), hl⟩
theorem he_ok {a1 : Int} {c : Bool} (hw : getH H a1 < 18446744073709551616) (hc : decide (Int.ofNat (hs (getH H a1)) = 1) = c) {l : List QI} (hl : QOk l) : QOk (heQ (hsO H bn ck) (hs (getH H a1)) (hg (getH H a1)) (getH H a1) a1 c ++ l) :=
  lkq_ok (asr_ok hw (v_ok (by rw [hc]) hl))
theorem saw_sf {a : A3} (hm : most < 4294967296) (hw : was < 18446744073709551616) (hi : is < 18446744073709551616) (hH : ∀ z : Nat, getH H (Int.ofNat z) < 18446744073709551616) (hf : a.1 = 9 → 0 ≤ a.2.2 ∧ a.2.2 ≤ 7) (h0 : (sawP most H a was is).2 = 0) :
    ∃ bn' ck', SF 15 [.ptr 10 0, acA kn a.1 a.2.1 a.2.2 was is dn] (u8 0) M M (shB most H bn ck) (shB most (sawP most H a was is).1 bn' ck') (kl []) := by
  obtain ⟨a0, a1, a2⟩ := a
  by_cases h9 : a0 = 9
  · subst h9
    obtain ⟨f, rfl, hf7⟩ : ∃ f : Nat, a2 = Int.ofNat f ∧ f ≤ 7 := by
      obtain ⟨f1, f2⟩ := hf rfl
      have f1 : 0 ≤ a2 := f1
      have f2 : a2 ≤ 7 := f2
      refine ⟨a2.toNat, (Int.toNat_of_nonneg f1).symm, by omega⟩
    by_cases hr : 0 ≤ a1 ∧ a1 < 256
    · have hz : a1 = Int.ofNat a1.toNat := (Int.toNat_of_nonneg hr.1).symm
      have hw1 : getH H a1 < 18446744073709551616 := by rw [hz]; exact hH _
      have e0 : sawP most H (9, a1, Int.ofNat f) was is = (if Int.ofNat f = 0 then (putH H a1 is, if is ≠ was ∧ ofF was is most = 0 then 1 else 0) else if 5 ≤ Int.ofNat f ∧ Int.ofNat f ≤ 7 then (H, if isH (getH H a1) then 0 else 2) else (H, 0)) := by
        unfold sawP
        rw [if_pos ⟨rfl, hr⟩]
      rw [e0] at h0 ⊢
      by_cases f0 : f = 0
      · subst f0
        rw [if_pos (show Int.ofNat 0 = (0 : Int) from rfl)] at h0 ⊢
        obtain ⟨bn', ck', hu⟩ := upd_hs H bn ck a1 is 11
        refine ⟨bn', ck', ?_⟩
        by_cases e : is = was
        · exact gr_sh (k_sw4e M (mapO M.ms) (hsO H bn ck) (hsO (putH H a1 is) bn' ck') most was is kn a1 dn) (sl_ok hr ⟨fun s hs => hu s (hs (11, hsO H bn ck) (by simp)), v_ok (by rw [e]; simp) trivial⟩) rfl rfl rfl rfl rfl rfl rfl
        · have ho : ofF was is most ≠ 0 := fun ho => by
            have h0 : (if is ≠ was ∧ ofF was is most = 0 then 1 else 0) = 0 := h0
            rw [if_pos ⟨e, ho⟩] at h0
            cases h0
          exact gr_sh (k_sw4n M (mapO M.ms) (hsO H bn ck) (hsO (putH H a1 is) bn' ck') most was is (ofF was is most) kn a1 dn) (sl_ok hr ⟨fun s hs => hu s (hs (11, hsO H bn ck) (by simp)), v_ok (by
            have : (Int.ofNat is != Int.ofNat was) = true := by simp; omega
            rw [this]) ⟨fun s hs => of_gen was is most hw hi hm s hs, vn_ok (fun h => ho (Int.ofNat.inj h)) trivial⟩⟩) rfl rfl rfl rfl rfl rfl rfl
      · rw [if_neg (show ¬ Int.ofNat f = (0 : Int) from fun h => f0 (Int.ofNat.inj h))] at h0 ⊢
        refine ⟨bn, ck, ?_⟩
        by_cases f5 : 5 ≤ f
        · have c5 : 5 ≤ Int.ofNat f ∧ Int.ofNat f ≤ 7 := by simp only [Int.ofNat_eq_natCast]; omega
          rw [if_pos c5] at h0 ⊢
          have hh : isH (getH H a1) = true := by
            cases e : isH (getH H a1) with
            | true => rfl
            | false =>
              have h0 : (if isH (getH H a1) = true then 0 else 2) = 0 := h0
              rw [e] at h0
              cases h0
          unfold isH at hh
          by_cases h1 : hs (getH H a1) = 1
          · exact gr_sh (k_sw5y M (mapO M.ms) (hsO H bn ck) most was is (hs (getH H a1)) (hg (getH H a1)) (getH H a1) kn a1 dn f f5 hf7) (sl_ok hr (he_ok (l := []) hw1 (decide_eq_true (by rw [h1]; rfl)) trivial)) rfl rfl rfl rfl rfl rfl rfl
          · have h2 : hs (getH H a1) = 2 := by
              simp only [Bool.or_eq_true, beq_iff_eq] at hh
              omega
            exact gr_sh (k_sw5n M (mapO M.ms) (hsO H bn ck) most was is (hs (getH H a1)) (hg (getH H a1)) (getH H a1) kn a1 dn f f5 hf7) (sl_ok hr (he_ok hw1 (decide_eq_false (fun h => h1 (Int.ofNat.inj h))) (vb_ok (by rw [h2]; rfl) trivial))) rfl rfl rfl rfl rfl rfl rfl
        · rw [if_neg (show ¬ (5 ≤ Int.ofNat f ∧ Int.ofNat f ≤ 7) by simp only [Int.ofNat_eq_natCast]; omega)]
          exact gr_sh (k_sw3 M (mapO M.ms) (hsO H bn ck) most was is kn a1 dn f (by omega) (by omega)) (sl_ok (l := []) hr trivial) rfl rfl rfl rfl rfl rfl rfl
    · have e0 : sawP most H (9, a1, Int.ofNat f) was is = (H, 0) := by
        unfold sawP
        rw [if_neg (fun h => hr h.2)]
      rw [e0]
      refine ⟨bn, ck, ?_⟩
      by_cases h1 : 0 ≤ a1
      · exact gr_sh (k_sw2b M (mapO M.ms) (hsO H bn ck) most was is kn a1 dn (Int.ofNat f)) (vb_ok h1 (vn_ok (fun h => hr ⟨h1, h⟩) trivial)) rfl rfl rfl rfl rfl rfl rfl
      · exact gr_sh (k_sw2a M (mapO M.ms) (hsO H bn ck) most was is kn a1 dn (Int.ofNat f)) (vn_ok h1 trivial) rfl rfl rfl rfl rfl rfl rfl
  · have e0 : sawP most H (a0, a1, a2) was is = (H, 0) := by
      unfold sawP
      rw [if_neg (fun h => h9 h.1)]
    rw [e0]
    refine ⟨bn, ck, gr_sh (k_sw1 M (mapO M.ms) (hsO H bn ck) most was is kn a0 a1 dn a2) (v_ok ?_ trivial) rfl rfl rfl rfl rfl rfl rfl⟩
    have : (a0 != 9) = true := by simpa using h9
    rw [this]
theorem fine_sf {z g : Nat} (hH : ∀ z : Nat, getH H (Int.ofNat z) < 18446744073709551616) : SF 18 [.ptr 10 0, refA (Int.ofNat z) g] (.bool (fineP H (z, g))) M M (shB most H bn ck) (shB most H bn ck) (kl []) := by
  have hw1 := hH z
  have gq : ∀ w : Nat, decide (Int.ofNat (hg w) = Int.ofNat g) = (hg w == g) := fun w => by
    by_cases e : hg w = g
    · rw [e]; simp
    · rw [decide_eq_false (fun h => e (Int.ofNat.inj h))]
      simpa using e
  unfold fineP isH
  by_cases h1 : hs (getH H (Int.ofNat z)) = 1
  · rw [show (hs (getH H (Int.ofNat z)) == 1) = true from by rw [h1]; rfl, Bool.true_or, Bool.true_and]
    exact gr_sh (k_fiy M (mapO M.ms) (hsO H bn ck) most (hs (getH H (Int.ofNat z))) (hg (getH H (Int.ofNat z))) (getH H (Int.ofNat z)) (Int.ofNat z) g _) (he_ok hw1 (decide_eq_true (by rw [h1]; rfl)) (v_ok (by rw [gq]) trivial)) rfl rfl rfl rfl rfl rfl rfl
  · rw [show (hs (getH H (Int.ofNat z)) == 1) = false from by simpa using h1, Bool.false_or]
    by_cases h2 : hs (getH H (Int.ofNat z)) = 2
    · rw [show (hs (getH H (Int.ofNat z)) == 2) = true from by rw [h2]; rfl, Bool.true_and]
      exact gr_sh (k_fin M (mapO M.ms) (hsO H bn ck) most (hs (getH H (Int.ofNat z))) (hg (getH H (Int.ofNat z))) (getH H (Int.ofNat z)) (Int.ofNat z) g _) (he_ok hw1 (decide_eq_false (fun h => h1 (Int.ofNat.inj h))) (vb_ok (by rw [h2]; rfl) (v_ok (by rw [gq]) trivial))) rfl rfl rfl rfl rfl rfl rfl
    · rw [show (hs (getH H (Int.ofNat z)) == 2) = false from by simpa using h2, Bool.false_and]
      exact gr_sh (k_fi0 M (mapO M.ms) (hsO H bn ck) most (hs (getH H (Int.ofNat z))) (hg (getH H (Int.ofNat z))) (getH H (Int.ofNat z)) (Int.ofNat z) g) (he_ok hw1 (decide_eq_false (fun h => h1 (Int.ofNat.inj h))) (vn_ok (fun h => h2 (Int.ofNat.inj h)) trivial)) rfl rfl rfl rfl rfl rfl rfl
theorem of_sf {z : Nat} (hH : ∀ z : Nat, getH H (Int.ofNat z) < 18446744073709551616) : SF 16 [.ptr 10 0, i64 (Int.ofNat z)] (.tuple [u8 (hs (getH H (Int.ofNat z))), u32 (hg (getH H (Int.ofNat z)))]) M M (shB most H bn ck) (shB most H bn ck) (kl []) :=
  gr_sh (k_of M (mapO M.ms) (hsO H bn ck) most (hs (getH H (Int.ofNat z))) (hg (getH H (Int.ofNat z))) (getH H (Int.ofNat z)) (Int.ofNat z)) (lkq_ok (asr_ok (hH z) trivial)) rfl rfl rfl rfl rfl rfl rfl
end
end Go.Proofs.YtofbdgmknfbkfaaGreatDoor.nodesLife
