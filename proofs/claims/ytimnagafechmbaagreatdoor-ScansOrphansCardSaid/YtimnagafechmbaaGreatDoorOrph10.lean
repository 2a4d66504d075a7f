/- What holds of two takers, and that they come to an end; both in one state. Conditions: those that each theorem names, and no others. -/
import Derived.Test.YtimnagafechmbaaGreatDoorOrph9
namespace Go.Proofs.YtimnagafechmbaaGreatDoor.scansOrphans
open Go Go.Mini
/-! ### two takers, plainly: what holds between the steps, and that they come to an end -/
structure MB (M : PM) : Prop where
  lt : Lt M
  ph : getW M.ms aPh = 16
  bl : getW M.ms aBl = 1
  th : ∀ j, j < 40 → getW M.ms (aTh (Int.ofNat (j / 10)) (Int.ofNat (j % 10))) = wd j
  s1 : getW M.ms aS1 ≠ 2
structure SX (M : PM) (n j : Nat) : Prop where
  hd : hg (getW M.ms (aL (sl j) 0)) = 0
  bi : getW M.ms (aL (sl j) 1) = 0
  ep : getW M.ms (aL (sl j) 3) = 0
  er : getW M.ms (aL (sl j) 4) = 0
  nx : j + 1 < n → slI (getW M.ms (aL (sl j) 2)) = sl (j + 1)
  la : j + 1 = n → getW M.ms (aL (sl j) 2) = 0
def kd (m : Nat) : Nat := if m = 0 then 1 else 2
/-- 0: neither; 1: it got nothing; 2: it got all. -/
def kind : LS → Nat
  | .t1 _ => 0
  | .t2 _ => 0
  | .t3 _ => 2
  | .t4 _ => 2
  | .t5 _ => 2
  | .t6 _ => 2
  | .t7 _ => 2
  | .s0 m => kd m
  | .a1 m => kd m
  | .a2 m _ => kd m
  | .a3 m _ _ => kd m
  | .a4 m _ => kd m
  | .b1 m => kd m
  | .b2 m _ => kd m
  | .k1 m => kd m
  | .k2 m _ => kd m
  | .e0 m => kd m
  | .f1 _ => 2
  | .f2 _ => 2
  | .f3 _ => 2
  | .f4 _ => 2
  | .f5 _ _ => 2
  | .f6 _ _ => 2
  | .dn m => kd m
def okm (n m : Nat) : Prop := m = 0 ∨ m = n
def okL (n hw : Nat) (M : PM) : LS → Prop
  | .t1 _ => True
  | .t2 hd => hd = hw
  | .t3 i => i < n
  | .t4 i => i < n
  | .t5 i => i < n
  | .t6 i => i < n
  | .t7 i => i < n
  | .s0 m => okm n m
  | .a1 m => okm n m
  | .a2 m _ => okm n m
  | .a3 m _ i => okm n m ∧ i < 4
  | .a4 m _ => okm n m
  | .b1 m => okm n m
  | .b2 m _ => okm n m
  | .k1 m => okm n m
  | .k2 m j => okm n m ∧ j < 40
  | .e0 m => okm n m
  | .f1 i => i < n
  | .f2 i => i < n
  | .f3 i => i < n
  | .f4 i => i < n
  | .f5 i w => i < n ∧ w = getW M.ms aF
  | .f6 i w => i < n ∧ w = getW M.ms aF
  | .dn m => okm n m
/-- The first entry whose slot is as it was given. -/
def frm (n : Nat) : LS → Nat
  | .f1 i => i
  | .f2 i => i
  | .f3 i => i + 1
  | .f4 i => i + 1
  | .f5 i _ => i + 1
  | .f6 i _ => i + 1
  | .dn _ => n
  | _ => 0
def mu (_ hw : Nat) (M : PM) : LS → Nat
  | .t1 _ => if getW M.ms aO = hw then 400 else 396
  | .t2 _ => if getW M.ms aO = hw then 399 else 397
  | .t3 i => 305 + 5 * (8 - i)
  | .t4 i => 304 + 5 * (8 - i)
  | .t5 i => 303 + 5 * (8 - i)
  | .t6 i => 302 + 5 * (8 - i)
  | .t7 i => 301 + 5 * (8 - i)
  | .s0 _ => 299
  | .a1 _ => 298
  | .a2 _ _ => 297
  | .a3 _ _ i => 296 - i
  | .a4 _ _ => 290
  | .b1 _ => 289
  | .b2 _ _ => 288
  | .k1 _ => 287
  | .k2 _ j => 286 - j
  | .e0 _ => 240
  | .f1 i => 6 * (8 - i) + 6
  | .f2 i => 6 * (8 - i) + 5
  | .f3 i => 6 * (8 - i) + 4
  | .f4 i => 6 * (8 - i) + 3
  | .f5 i _ => 6 * (8 - i) + 2
  | .f6 i _ => 6 * (8 - i) + 1
  | .dn _ => 0
/-- The orphans' stack is full, nobody took it; or it is empty, and one has all, if there were any. -/
def Orp (n hw : Nat) (M : PM) (l o : LS) : Prop :=
  (getW M.ms aO = hw ∧ slI hw = sl 0 ∧ 0 < n ∧ kind l = 0 ∧ kind o = 0) ∨
  (getW M.ms aO ≠ hw ∧ slI (getW M.ms aO) < 0 ∧ ((n = 0 ∧ kind l ≠ 2 ∧ kind o ≠ 2) ∨ (0 < n ∧ kind l = 2 ∧ kind o ≠ 2) ∨ (0 < n ∧ kind l ≠ 2 ∧ kind o = 2)))
theorem Orp.symm {n hw : Nat} {M : PM} {l o : LS} (h : Orp n hw M l o) : Orp n hw M o l := by
  rcases h with ⟨h1, h2, h3, h4, h5⟩ | ⟨h1, h2, ⟨h3, h4, h5⟩ | ⟨h3, h4, h5⟩ | ⟨h3, h4, h5⟩⟩
  · exact .inl ⟨h1, h2, h3, h5, h4⟩
  · exact .inr ⟨h1, h2, .inl ⟨h3, h5, h4⟩⟩
  · exact .inr ⟨h1, h2, .inr (.inr ⟨h3, h5, h4⟩)⟩
  · exact .inr ⟨h1, h2, .inr (.inl ⟨h3, h5, h4⟩)⟩
structure GI (n hw : Nat) (l o : LS) (M : PM) : Prop where
  hn : n ≤ 8
  hw64 : hw < 18446744073709551616
  mb : MB M
  okl : okL n hw M l
  oko : okL n hw M o
  orp : Orp n hw M l o
  sl0 : kind l ≠ 2 → kind o ≠ 2 → ∀ j, j < n → SX M n j
  sll : kind l = 2 → ∀ j, frm n l ≤ j → j < n → SX M n j
  slo : kind o = 2 → ∀ j, frm n o ≤ j → j < n → SX M n j
theorem GI.symm {n hw : Nat} {l o : LS} {M : PM} (h : GI n hw l o M) : GI n hw o l M := ⟨h.hn, h.hw64, h.mb, h.oko, h.okl, h.orp.symm, fun a b => h.sl0 b a, h.slo, h.sll⟩
theorem kd2 {m : Nat} (h : kd m = 2) : m ≠ 0 := fun e => by subst e; cases h
theorem kd_ne {m : Nat} (h : kd m ≠ 2) : m = 0 := by
  unfold kd at h
  split at h
  · assumption
  · exact absurd rfl h
theorem casd_eq {M : PM} {a : A3} {w : Nat} (ha : mayA a = true) : M.casd a w = decide (getW M.ms a = w) := by simp [PM.casd, ha]
theorem mayO : mayA aO = true := by decide
theorem mayF' : mayA aF = true := by decide
/-- There is a step. -/
theorem GI.go {n hw : Nat} {l o : LS} {M : PM} (h : GI n hw l o M) : ∃ l2 M2, Nx n hw l M l2 M2 := by
  have hL := h.mb.lt
  have sx : ∀ i, kind l = 2 → frm n l ≤ i → i < n → SX M n i := fun i h1 h2 h3 => h.sll h1 i h2 h3
  have hn := h.hn
  have ok := h.okl
  cases l with
  | t1 hd =>
    rcases h.orp with ⟨h1, h2, h3, _⟩ | ⟨_, h2, _⟩
    · exact ⟨_, _, .t1n M hd hL (by rw [h1, h2]; simp [sl])⟩
    · exact ⟨_, _, .t1y M hd hL h2⟩
  | t2 hd =>
    have ok : hd = hw := ok
    rcases h.orp with ⟨h1, h2, h3, _⟩ | ⟨h1, h2, _⟩
    · exact ⟨_, _, .t2y M hd (ok ▸ h.hw64) (by rw [casd_eq mayO, h1, ok]; simp) ok (by rw [ok]; exact h2)⟩
    · exact ⟨_, _, .t2n M hd (ok ▸ h.hw64) (by rw [casd_eq mayO, ok]; simp [h1])⟩
  | t3 i => exact ⟨_, _, .t3 M i hL (sx i rfl (Nat.zero_le _) ok).hd⟩
  | t4 i => exact ⟨_, _, .t4 M i (sx i rfl (Nat.zero_le _) ok).bi⟩
  | t5 i => exact ⟨_, _, .t5 M i (sx i rfl (Nat.zero_le _) ok).ep⟩
  | t6 i =>
    cases i with
    | zero => exact ⟨_, _, .t6a M (sx 0 rfl (Nat.zero_le _) ok).er⟩
    | succ i => exact ⟨_, _, .t6b M i (by have : i + 1 < n := ok; omega) (sx (i + 1) rfl (Nat.zero_le _) ok).er⟩
  | t7 i =>
    have ok : i < n := ok
    by_cases hi : i + 1 = n
    · exact ⟨_, _, .t7y M i hi hn ((sx i rfl (Nat.zero_le _) ok).la hi)⟩
    · exact ⟨_, _, .t7n M i hL (by omega) ((sx i rfl (Nat.zero_le _) ok).nx (by omega))⟩
  | s0 m =>
    cases m with
    | zero => exact ⟨_, _, .s0z M h.mb.ph⟩
    | succ m => exact ⟨_, _, .s0s M m h.mb.ph⟩
  | a1 m => exact ⟨_, _, .a1 M m⟩
  | a2 m e => exact ⟨_, _, .a2 M m e h.mb.bl⟩
  | a3 m e i =>
    have hi : i < 4 := ok.2
    have ht := h.mb.th (10 * i + 3) (by omega)
    rw [show (10 * i + 3) / 10 = i by omega, show (10 * i + 3) % 10 = 3 by omega, show wd (10 * i + 3) = 0 by unfold wd; rw [show (10 * i + 3) % 10 = 3 by omega]; rfl] at ht
    by_cases h4 : i + 1 < 4
    · exact ⟨_, _, .a3n M m e i h4 ht⟩
    · obtain rfl : i = 3 := by omega
      exact ⟨_, _, .a3y M m e ht⟩
  | a4 m e => exact ⟨_, _, .a4 M m e⟩
  | b1 m => exact ⟨_, _, .b1 M m⟩
  | b2 m e => exact ⟨_, _, .b2 M m e⟩
  | k1 m => exact ⟨_, _, .k1 M m h.mb.bl⟩
  | k2 m j =>
    have hj : j < 40 := ok.2
    by_cases h4 : j < 39
    · exact ⟨_, _, .k2 M m j h4 (h.mb.th j (by omega))⟩
    · obtain rfl : j = 39 := by omega
      exact ⟨_, _, .k2e M m (h.mb.th 39 (by omega))⟩
  | e0 m =>
    cases m with
    | zero => exact ⟨_, _, .e0 M⟩
    | succ m =>
      have : m + 1 = n := by rcases ok with e | e; · cases e
                             · exact e
      subst this
      exact ⟨_, _, .en M (by omega) hn⟩
  | f1 i => exact ⟨_, _, .f1 M i hL (sx i rfl (Nat.le_refl _) ok).hd⟩
  | f2 i => exact ⟨_, _, .f2 M i⟩
  | f3 i => exact ⟨_, _, .f3 M i (by have : i < n := ok; omega) h.mb.s1⟩
  | f4 i => exact ⟨_, _, .f4 M i hL⟩
  | f5 i w => exact ⟨_, _, .f5 M i w (by rw [ok.2]; exact hL aF)⟩
  | f6 i w =>
    have hi : i < n := ok.1
    have hc : M.casd aF w = true := by rw [casd_eq mayF', ok.2]; simp
    have hw2 : w < 18446744073709551616 := by rw [ok.2]; exact hL aF
    by_cases h4 : i + 1 = n
    · exact ⟨_, _, .f6e M i w h4 hn hw2 hc⟩
    · exact ⟨_, _, .f6 M i w (by omega) hn hw2 hc⟩
  | dn m =>
    cases m with
    | zero => exact ⟨_, _, .dn0 M⟩
    | succ m => exact ⟨_, _, .dn1 M m⟩
end Go.Proofs.YtimnagafechmbaaGreatDoor.scansOrphans
namespace Go.Proofs.YtimnagafechmbaaGreatDoor.scansOrphans
open Go Go.Mini
/-! ### what holds stays so; and each step comes nearer to the end -/
theorem mb_of {M M2 : PM} (h : MB M) (hl : Lt M2) (hs : ∀ b : A3, b.1 ≠ 4 → b.1 ≠ 1 → b.1 ≠ 2 → b.1 ≠ 0 → b.1 ≠ 9 → getW M2.ms b = getW M.ms b) : MB M2 :=
  ⟨hl, by rw [hs aPh (by decide) (by decide) (by decide) (by decide) (by decide)]; exact h.ph, by rw [hs aBl (by decide) (by decide) (by decide) (by decide) (by decide)]; exact h.bl,
    fun j hj => by rw [hs (aTh (Int.ofNat (j / 10)) (Int.ofNat (j % 10))) (show (8 : Int) ≠ 4 by decide) (show (8 : Int) ≠ 1 by decide) (show (8 : Int) ≠ 2 by decide) (show (8 : Int) ≠ 0 by decide) (show (8 : Int) ≠ 9 by decide)]; exact h.th j hj,
    by rw [hs aS1 (by decide) (by decide) (by decide) (by decide) (by decide)]; exact h.s1⟩
theorem sx_of {M M2 : PM} {n j : Nat} (h : SX M n j) (hs : ∀ f, getW M2.ms (aL (sl j) f) = getW M.ms (aL (sl j) f)) : SX M2 n j :=
  ⟨by rw [hs]; exact h.hd, by rw [hs]; exact h.bi, by rw [hs]; exact h.ep, by rw [hs]; exact h.er, fun e => by rw [hs]; exact h.nx e, fun e => by rw [hs]; exact h.la e⟩
theorem okL_of {n hw : Nat} {M M2 : PM} {o : LS} (h : okL n hw M o) (hF : getW M2.ms aF = getW M.ms aF ∨ kind o ≠ 2) : okL n hw M2 o := by
  cases o with
  | f5 i w =>
    rcases hF with e | e
    · exact ⟨h.1, by rw [e]; exact h.2⟩
    · exact absurd rfl e
  | f6 i w =>
    rcases hF with e | e
    · exact ⟨h.1, by rw [e]; exact h.2⟩
    · exact absurd rfl e
  | _ => exact h
theorem mu_of {n hw : Nat} {M M2 : PM} (o : LS) (h : getW M2.ms aO = hw → getW M.ms aO = hw) : mu n hw M2 o ≤ mu n hw M o := by
  cases o with
  | t1 hd =>
    simp only [mu]
    split
    · rw [if_pos (h (by assumption))]; exact Nat.le_refl _
    · split <;> omega
  | t2 hd =>
    simp only [mu]
    split
    · rw [if_pos (h (by assumption))]; exact Nat.le_refl _
    · split <;> omega
  | _ => exact Nat.le_refl _
theorem orp_one {n hw : Nat} {M : PM} {l o : LS} (h : Orp n hw M l o) (hl : kind l = 2) : kind o ≠ 2 := by
  rcases h with ⟨_, _, _, h4, h5⟩ | ⟨_, _, ⟨_, h4, h5⟩ | ⟨_, h4, h5⟩ | ⟨_, h4, h5⟩⟩
  · rw [h5]; decide
  · exact h5
  · exact h5
  · exact absurd hl h4
theorem orp_of {n hw : Nat} {M M2 : PM} {l l2 o : LS} (h : Orp n hw M l o) (hk : kind l2 = kind l) (hO : getW M2.ms aO = getW M.ms aO) : Orp n hw M2 l2 o := by
  unfold Orp
  rw [hk, hO]
  exact h
theorem GI.keep {n hw : Nat} {l l2 o : LS} {M M2 : PM} (h : GI n hw l o M) (hk : kind l2 = kind l) (ok : okL n hw M2 l2) (hl : Lt M2) (hO : getW M2.ms aO = getW M.ms aO) (hs : ∀ b : A3, b.1 ≠ 4 → b.1 ≠ 1 → b.1 ≠ 2 → b.1 ≠ 0 → b.1 ≠ 9 → getW M2.ms b = getW M.ms b)
    (hF : getW M2.ms aF = getW M.ms aF ∨ kind l = 2) (hf : kind l = 2 → frm n l ≤ frm n l2) (hS : ∀ j, j < n → (kind l = 2 → frm n l2 ≤ j) → ∀ f, getW M2.ms (aL (sl j) f) = getW M.ms (aL (sl j) f)) : GI n hw l2 o M2 where
  hn := h.hn
  hw64 := h.hw64
  mb := mb_of h.mb hl hs
  okl := ok
  oko := okL_of h.oko (hF.imp id fun e => orp_one h.orp e)
  orp := orp_of h.orp hk hO
  sl0 := fun h1 h2 j hj => sx_of (h.sl0 (hk ▸ h1) h2 j hj) (hS j hj fun e => absurd e (hk ▸ h1))
  sll := fun h1 j h2 h3 => sx_of (h.sll (hk ▸ h1) j (Nat.le_trans (hf (hk ▸ h1)) h2) h3) (hS j h3 fun _ => h2)
  slo := fun h1 j h2 h3 => sx_of (h.slo h1 j h2 h3) (hS j h3 fun e => absurd h1 (orp_one h.orp e))
theorem cas_lt {M : PM} (h : Lt M) (a : A3) (w u : Nat) (hu : u < 18446744073709551616) : Lt (M.cas a w u) := h.cas a w hu
theorem cas_other {M : PM} {a b : A3} {w u : Nat} (h : b ≠ a) : getW (M.cas a w u).ms b = getW M.ms b := by
  unfold PM.cas
  split
  · show getW (putW M.ms a u) b = _
    rw [get_put, if_neg h]
  · rfl
theorem cas_no {M : PM} {a b : A3} {w u : Nat} (h : M.casd a w = false) : getW (M.cas a w u).ms b = getW M.ms b := by
  unfold PM.cas
  rw [h]
  rfl
theorem cas_hit {M : PM} {a : A3} {w u : Nat} (h : M.casd a w = true) : getW (M.cas a w u).ms a = u := by
  unfold PM.cas
  rw [h]
  show getW (putW M.ms a u) a = u
  rw [get_put, if_pos rfl]
theorem store_other {M : PM} {a b : A3} {u : Nat} (h : b ≠ a) : getW (M.store a u).ms b = getW M.ms b := by
  unfold PM.store
  split
  · show getW (putW M.ms a u) b = _
    rw [get_put, if_neg h]
  · rfl
theorem ne1 {a b : A3} (h : a.1 ≠ b.1) : a ≠ b := fun e => h (by rw [e])
theorem sl_ne {i j : Nat} (hi : i < 8) (hj : j < 8) (h : i ≠ j) : sl i ≠ sl j := by simp only [sl, Int.ofNat_eq_natCast]; omega
theorem aL_ne {i j : Nat} {f g : Int} (h : sl i ≠ sl j) : aL (sl i) f ≠ aL (sl j) g := fun e => h (by simp only [aL, Prod.mk.injEq] at e; exact e.2.1)
theorem GI.load {n hw : Nat} {l l2 o : LS} {M : PM} (h : GI n hw l o M) (a : A3) (hk : kind l2 = kind l) (ok : okL n hw M l2) (hf : kind l = 2 → frm n l ≤ frm n l2) : GI n hw l2 o (M.load a) :=
  h.keep hk (okL_of ok (.inl rfl)) h.mb.lt rfl (fun _ _ _ _ _ _ => rfl) (.inl rfl) hf (fun _ _ _ _ => rfl)
theorem GI.casE {n hw : Nat} {l l2 o : LS} {M : PM} (h : GI n hw l o M) (a : A3) (w u : Nat) (ha : a = aEp ∨ a = aEra) (hu : u < 18446744073709551616) (hk : kind l2 = kind l) (ok : okL n hw M l2) (hf : kind l = 2 → frm n l ≤ frm n l2) : GI n hw l2 o (M.cas a w u) := by
  have a1 : a.1 = 1 ∨ a.1 = 2 := by rcases ha with rfl | rfl <;> simp [aEp, aEra]
  have o1 : ∀ b : A3, b.1 ≠ 1 → b.1 ≠ 2 → getW (M.cas a w u).ms b = getW M.ms b := fun b h1 h2 => cas_other (ne1 (by rcases a1 with e | e <;> rw [e] <;> assumption))
  exact h.keep hk (okL_of ok (.inl (o1 aF (by decide) (by decide)))) (cas_lt h.mb.lt a w u hu) (o1 aO (by decide) (by decide)) (fun b _ h2 h3 _ _ => o1 b h2 h3) (.inl (o1 aF (by decide) (by decide))) hf (fun j _ _ f => o1 (aL (sl j) f) (show (9 : Int) ≠ 1 by decide) (show (9 : Int) ≠ 2 by decide))
def Dec1 (n hw : Nat) (l o l2 : LS) (M M2 : PM) : Prop := (mu n hw M2 l2 < mu n hw M l ∨ ∃ m, l = .dn m ∧ l2 = .dn m) ∧ mu n hw M2 o ≤ mu n hw M o
theorem GI.next {n hw : Nat} {l o l2 : LS} {M M2 : PM} (h : GI n hw l o M) (x : Nx n hw l M l2 M2) : GI n hw l2 o M2 ∧ Dec1 n hw l o l2 M M2 := by
  have hn := h.hn
  have ok := h.okl
  have e64 : ∀ e : Nat, (e + 1) % 18446744073709551616 < 18446744073709551616 := fun e => Nat.mod_lt _ (by omega)
  cases x with
  | t1n _ hd hL h0 =>
    have : getW M.ms aO = hw := by
      rcases h.orp with ⟨h1, _⟩ | ⟨_, h2, _⟩
      · exact h1
      · omega
    exact ⟨h.load aO rfl (show getW M.ms aO = hw from this) (fun e => absurd (show (0 : Nat) = 2 from e) (by decide)), .inl (by simp only [mu]; rw [if_pos this, if_pos (show getW (M.load aO).ms aO = hw from this)]; omega), mu_of o id⟩
  | t1y _ hd hL h0 =>
    rcases h.orp with ⟨h1, h2, _⟩ | ⟨h1, h2, h3⟩
    · rw [h1, h2] at h0
      simp [sl] at h0
    · refine ⟨⟨h.hn, h.hw64, mb_of h.mb h.mb.lt (fun _ _ _ _ _ _ => rfl), .inl rfl, okL_of h.oko (.inl rfl), .inr ⟨h1, h2, ?_⟩, fun _ g2 j hj => sx_of (h.sl0 (by show (0 : Nat) ≠ 2; decide) g2 j hj) (fun _ => rfl), fun e => absurd e (by decide), fun e j g1 g2 => sx_of (h.slo e j g1 g2) (fun _ => rfl)⟩, .inl ?_, mu_of o id⟩
      · rcases h3 with ⟨g1, _, g3⟩ | ⟨_, g2, _⟩ | ⟨g1, _, g3⟩
        · exact .inl ⟨g1, by decide, g3⟩
        · cases g2
        · exact .inr (.inr ⟨g1, by decide, g3⟩)
      · simp only [mu]
        split <;> omega
  | t2y _ hd hw2 hc he hs =>
    subst he
    rw [casd_eq mayO] at hc
    have hO : getW M.ms aO = hd := of_decide_eq_true hc
    have hc' : M.casd aO hd = true := by rw [casd_eq mayO, hO]; simp
    have hit := cas_hit (u := hdN (-1) (tgN hd + 1)) hc'
    have s1 : slI (hdN (-1) (tgN hd + 1)) = -1 := slI_hdN _ _ (.inl rfl)
    have ne : hdN (-1) (tgN hd + 1) ≠ hd := fun e => by
      rw [e, hs] at s1
      simp [sl] at s1
    have o1 : ∀ b : A3, b.1 ≠ 4 → getW (M.cas aO hd (hdN (-1) (tgN hd + 1))).ms b = getW M.ms b := fun b h1 => cas_other (ne1 h1)
    rcases h.orp with ⟨_, _, h3, _, h5⟩ | ⟨h1, _⟩
    · have g0 : ∀ j, j < n → SX (M.cas aO hd (hdN (-1) (tgN hd + 1))) n j := fun j hj => sx_of (h.sl0 (show (0 : Nat) ≠ 2 by decide) (by rw [h5]; decide) j hj) (fun f => o1 _ (show (9 : Int) ≠ 4 by decide))
      refine ⟨⟨h.hn, h.hw64, mb_of h.mb (cas_lt h.mb.lt _ _ _ (hdN_lt _ _)) (fun b h1 _ _ _ _ => o1 b h1), h3, okL_of h.oko (.inl (o1 aF (by decide))), .inr ⟨by rw [hit]; exact ne, by rw [hit, s1]; decide, .inr (.inl ⟨h3, rfl, by rw [h5]; decide⟩)⟩, fun e => absurd rfl e, fun _ j _ hj => g0 j hj, fun e => by rw [h5] at e; cases e⟩, .inl ?_, mu_of o fun e => absurd (hit ▸ e) ne⟩
      simp only [mu]
      rw [if_pos hO]
      omega
    · exact absurd hO h1
  | t2n _ hd hw2 hc =>
    have hne : getW M.ms aO ≠ hw := fun e => by
      rw [casd_eq mayO, e, (show hd = hw from ok)] at hc
      simp at hc
    have o1 : ∀ b, getW (M.cas aO hd (hdN (-1) (tgN hd + 1))).ms b = getW M.ms b := fun b => cas_no hc
    refine ⟨h.keep rfl trivial (cas_lt h.mb.lt _ _ _ (hdN_lt _ _)) (o1 _) (fun b _ _ _ _ _ => o1 b) (.inl (o1 _)) (fun e => absurd (show (0 : Nat) = 2 from e) (by decide)) (fun j _ _ f => o1 _), .inl ?_, mu_of o fun e => (o1 aO) ▸ e⟩
    simp only [mu]
    rw [if_neg (by rw [o1]; exact hne), if_neg hne]
    omega
  | t3 _ i hL h0 => exact ⟨h.load _ rfl ok (fun _ => Nat.le_refl _), .inl (by simp only [mu]; omega), mu_of o id⟩
  | t4 _ i h0 => exact ⟨h.load _ rfl ok (fun _ => Nat.le_refl _), .inl (by simp only [mu]; omega), mu_of o id⟩
  | t5 _ i h0 => exact ⟨h.load _ rfl ok (fun _ => Nat.le_refl _), .inl (by simp only [mu]; omega), mu_of o id⟩
  | t6a _ h0 => exact ⟨h.load _ rfl ok (fun _ => Nat.le_refl _), .inl (by simp only [mu]; omega), mu_of o id⟩
  | t6b _ i hi h0 => exact ⟨h.load _ rfl ok (fun _ => Nat.le_refl _), .inl (by simp only [mu]; omega), mu_of o id⟩
  | t7n _ i hL hi h0 =>
    have hi2 : i < n := ok
    have : i + 1 < n := by
      have := Nat.lt_or_ge (i + 1) n
      rcases this with e | e
      · exact e
      · have hh := (h.sll rfl i (Nat.zero_le _) hi2).la (by omega)
        rw [hh] at h0
        have : slI 0 = -1 := by decide
        rw [this] at h0
        simp [sl] at h0
    exact ⟨h.load _ rfl this (fun _ => Nat.le_refl _), .inl (by simp only [mu]; omega), mu_of o id⟩
  | t7y _ i hi hn2 h0 =>
    exact ⟨h.load _ (show kd n = 2 by unfold kd; rw [if_neg (by omega)]) (.inr rfl) (fun _ => Nat.le_refl _), .inl (by simp only [mu]; omega), mu_of o id⟩
  | s0z _ h0 => exact ⟨h.load _ rfl ok (fun _ => Nat.le_refl _), .inl (by simp only [mu]; omega), mu_of o id⟩
  | s0s _ m h0 => exact ⟨h.load _ rfl ok (fun _ => Nat.le_refl _), .inl (by simp only [mu]; omega), mu_of o id⟩
  | a1 _ m => exact ⟨h.load _ rfl ok (fun _ => Nat.le_refl _), .inl (by simp only [mu]; omega), mu_of o id⟩
  | a2 _ m e h0 => exact ⟨h.load _ rfl ⟨ok, by omega⟩ (fun _ => Nat.le_refl _), .inl (by simp only [mu]; omega), mu_of o id⟩
  | a3n _ m e i hi h0 => exact ⟨h.load _ rfl ⟨ok.1, hi⟩ (fun _ => Nat.le_refl _), .inl (by simp only [mu]; omega), mu_of o id⟩
  | a3y _ m e h0 => exact ⟨h.load _ rfl ok.1 (fun _ => Nat.le_refl _), .inl (by simp only [mu]; omega), mu_of o id⟩
  | a4 _ m e => exact ⟨h.casE _ _ _ (.inl rfl) (e64 e) rfl ok (fun _ => Nat.le_refl _), .inl (by simp only [mu]; omega), mu_of o fun g => (cas_other (M := M) (a := aEp) (b := aO) (by decide)) ▸ g⟩
  | b1 _ m => exact ⟨h.load _ rfl ok (fun _ => Nat.le_refl _), .inl (by simp only [mu]; omega), mu_of o id⟩
  | b2 _ m e => exact ⟨h.casE _ _ _ (.inr rfl) (e64 e) rfl ok (fun _ => Nat.le_refl _), .inl (by simp only [mu]; omega), mu_of o fun g => (cas_other (M := M) (a := aEra) (b := aO) (by decide)) ▸ g⟩
  | k1 _ m h0 => exact ⟨h.load _ rfl ⟨ok, by omega⟩ (fun _ => Nat.le_refl _), .inl (by simp only [mu]; omega), mu_of o id⟩
  | k2 _ m j hj h0 => exact ⟨h.load _ rfl ⟨ok.1, by omega⟩ (fun _ => Nat.le_refl _), .inl (by simp only [mu]; omega), mu_of o id⟩
  | k2e _ m h0 => exact ⟨h.load _ rfl ok.1 (fun _ => Nat.le_refl _), .inl (by simp only [mu]; omega), mu_of o id⟩
  | e0 _ => exact ⟨h.load _ rfl ok (fun e => absurd e (by decide)), .inl (by simp only [mu]; omega), mu_of o id⟩
  | en _ h0 hn2 => exact ⟨h.load _ (show 2 = kd n by unfold kd; rw [if_neg (by omega)]) h0 (fun _ => Nat.le_refl _), .inl (by simp only [mu]; omega), mu_of o id⟩
  | f1 _ i hL h0 => exact ⟨h.load _ rfl ok (fun _ => Nat.le_refl _), .inl (by simp only [mu]; omega), mu_of o id⟩
  | f2 _ i =>
    have hi : i < n := ok
    have o1 : ∀ b : A3, b.1 ≠ 9 → getW (M.store (aL (sl i) 0) (mkw 0 1)).ms b = getW M.ms b := fun b h1 => store_other (ne1 h1)
    exact ⟨h.keep rfl hi (h.mb.lt.store _ (by decide)) (o1 aO (by decide)) (fun b _ _ _ _ h5 => o1 b h5) (.inl (o1 aF (by decide))) (fun _ => by show i ≤ i + 1; omega) (fun j hj hh f => store_other (aL_ne (sl_ne (by omega) (by omega) (by have : i + 1 ≤ j := hh rfl; omega)))), .inl (by simp only [mu]; omega), mu_of o fun g => (o1 aO (by decide)) ▸ g⟩
  | f3 _ i hi h0 => exact ⟨h.load _ rfl ok (fun _ => Nat.le_refl _), .inl (by simp only [mu]; omega), mu_of o id⟩
  | f4 _ i hL => exact ⟨h.load _ rfl ⟨ok, rfl⟩ (fun _ => Nat.le_refl _), .inl (by simp only [mu]; omega), mu_of o id⟩
  | f5 _ i w hw2 =>
    have hi : i < n := ok.1
    have o1 : ∀ b : A3, b.1 ≠ 9 → getW (M.store (aL (sl i) 2) (hdN (slI w) 0)).ms b = getW M.ms b := fun b h1 => store_other (ne1 h1)
    exact ⟨h.keep rfl ⟨hi, by rw [o1 aF (by decide)]; exact ok.2⟩ (h.mb.lt.store _ (hdN_lt _ _)) (o1 aO (by decide)) (fun b _ _ _ _ h5 => o1 b h5) (.inl (o1 aF (by decide))) (fun _ => Nat.le_refl _) (fun j hj hh f => store_other (aL_ne (sl_ne (by omega) (by omega) (by have : i + 1 ≤ j := hh rfl; omega)))), .inl (by simp only [mu]; omega), mu_of o fun g => (o1 aO (by decide)) ▸ g⟩
  | f6 _ i w hi hn2 hw2 hc =>
    have o1 : ∀ b : A3, b.1 ≠ 0 → getW (M.cas aF w (hdN (sl i) (tgN w + 1))).ms b = getW M.ms b := fun b h1 => cas_other (ne1 h1)
    exact ⟨h.keep rfl (show i + 1 < n from hi) (cas_lt h.mb.lt _ _ _ (hdN_lt _ _)) (o1 aO (by decide)) (fun b _ _ _ h4 _ => o1 b h4) (.inr rfl) (fun _ => Nat.le_refl _) (fun j hj hh f => o1 (aL (sl j) f) (show (9 : Int) ≠ 0 by decide)), .inl (by simp only [mu]; omega), mu_of o fun g => (o1 aO (by decide)) ▸ g⟩
  | f6e _ i w hi hn2 hw2 hc =>
    have o1 : ∀ b : A3, b.1 ≠ 0 → getW (M.cas aF w (hdN (sl i) (tgN w + 1))).ms b = getW M.ms b := fun b h1 => cas_other (ne1 h1)
    exact ⟨h.keep (show kd n = 2 by unfold kd; rw [if_neg (by omega)]) (.inr rfl) (cas_lt h.mb.lt _ _ _ (hdN_lt _ _)) (o1 aO (by decide)) (fun b _ _ _ h4 _ => o1 b h4) (.inr rfl) (fun _ => by show i + 1 ≤ n; omega) (fun j hj hh f => o1 (aL (sl j) f) (show (9 : Int) ≠ 0 by decide)), .inl (by simp only [mu]; omega), mu_of o fun g => (o1 aO (by decide)) ▸ g⟩
  | dn0 _ => exact ⟨h, .inr ⟨0, rfl, rfl⟩, Nat.le_refl _⟩
  | dn1 _ m => exact ⟨h, .inr ⟨m + 1, rfl, rfl⟩, Nat.le_refl _⟩
end Go.Proofs.YtimnagafechmbaaGreatDoor.scansOrphans
namespace Go.Proofs.YtimnagafechmbaaGreatDoor.scansOrphans
open Go Go.Mini Go.Mini.Fast
/-! ### two takers in one state; a step of one of them -/
def xv (b : Bool) : AV := bif b then .ptr 10 0 else .nilPtr
def tl (n hw : Nat) (k : Bool) (l : LS) : List (Nat × AObj) := (own n hw k false l).tail
theorem own_eq (n hw : Nat) (k y : Bool) (l : LS) : own n hw k y l = (6, twoO k (xv (sc l)) (yv y)) :: tl n hw k l := by
  cases l <;> rfl
def TOk (b : Nat) (o : AObj) : Prop := 7 ≤ b ∧ b < 30 ∧ o.names (fun c => Nat.blt c 30) = true
theorem got_t (i : Nat) : eachX TOk (gotB i) := by
  cases i with
  | zero => trivial
  | succ i => exact ⟨⟨show 7 ≤ 13 by decide, show 13 < 30 by decide, ents_names _ _⟩, trivial⟩
theorem had_t (i : Nat) : eachX TOk (hadB i) := by
  cases i with
  | zero => trivial
  | succ i => exact ⟨⟨show 7 ≤ 12 by decide, show 12 < 30 by decide, had_names _ _⟩, ⟨show 7 ≤ 13 by decide, show 13 < 30 by decide, ents_names _ _⟩, trivial⟩
theorem list_t (m : Nat) : (listO m).names (fun c => Nat.blt c 30) = true := by cases m <;> rfl
theorem take_t (l hd : Nat) (s e : Int) (i : Nat) : (takeO l hd s e (gotV i)).names (fun c => Nat.blt c 30) = true := by cases i <;> rfl
theorem tl_ok (n hw : Nat) (k : Bool) (l : LS) : eachX TOk (tl n hw k l) := by
  cases l with
  | t1 _ => exact ⟨⟨show 7 ≤ 7 by decide, show 7 < 30 by decide, rfl⟩, ⟨⟨show 7 ≤ 8 by decide, show 8 < 30 by decide, rfl⟩, ⟨⟨show 7 ≤ 9 by decide, show 9 < 30 by decide, rfl⟩, trivial⟩⟩⟩
  | t2 _ => exact ⟨⟨show 7 ≤ 7 by decide, show 7 < 30 by decide, rfl⟩, ⟨⟨show 7 ≤ 8 by decide, show 8 < 30 by decide, rfl⟩, ⟨⟨show 7 ≤ 9 by decide, show 9 < 30 by decide, rfl⟩, trivial⟩⟩⟩
  | t3 _ => exact ⟨⟨show 7 ≤ 7 by decide, show 7 < 30 by decide, rfl⟩, ⟨⟨show 7 ≤ 8 by decide, show 8 < 30 by decide, rfl⟩, ⟨⟨show 7 ≤ 9 by decide, show 9 < 30 by decide, take_t _ _ _ _ _⟩, got_t _⟩⟩⟩
  | t4 _ => exact ⟨⟨show 7 ≤ 7 by decide, show 7 < 30 by decide, rfl⟩, ⟨⟨show 7 ≤ 8 by decide, show 8 < 30 by decide, rfl⟩, ⟨⟨show 7 ≤ 9 by decide, show 9 < 30 by decide, take_t _ _ _ _ _⟩, got_t _⟩⟩⟩
  | t5 _ => exact ⟨⟨show 7 ≤ 7 by decide, show 7 < 30 by decide, rfl⟩, ⟨⟨show 7 ≤ 8 by decide, show 8 < 30 by decide, rfl⟩, ⟨⟨show 7 ≤ 9 by decide, show 9 < 30 by decide, take_t _ _ _ _ _⟩, got_t _⟩⟩⟩
  | t6 _ => exact ⟨⟨show 7 ≤ 7 by decide, show 7 < 30 by decide, rfl⟩, ⟨⟨show 7 ≤ 8 by decide, show 8 < 30 by decide, rfl⟩, ⟨⟨show 7 ≤ 9 by decide, show 9 < 30 by decide, take_t _ _ _ _ _⟩, got_t _⟩⟩⟩
  | t7 _ => exact ⟨⟨show 7 ≤ 7 by decide, show 7 < 30 by decide, rfl⟩, ⟨⟨show 7 ≤ 8 by decide, show 8 < 30 by decide, rfl⟩, ⟨⟨show 7 ≤ 9 by decide, show 9 < 30 by decide, rfl⟩, got_t _⟩⟩⟩
  | s0 _ => exact ⟨⟨show 7 ≤ 7 by decide, show 7 < 30 by decide, rfl⟩, ⟨⟨show 7 ≤ 8 by decide, show 8 < 30 by decide, list_t _⟩, ⟨⟨show 7 ≤ 10 by decide, show 10 < 30 by decide, rfl⟩, ⟨⟨show 7 ≤ 11 by decide, show 11 < 30 by decide, rfl⟩, had_t _⟩⟩⟩⟩
  | a1 _ => exact ⟨⟨show 7 ≤ 7 by decide, show 7 < 30 by decide, rfl⟩, ⟨⟨show 7 ≤ 8 by decide, show 8 < 30 by decide, list_t _⟩, ⟨⟨show 7 ≤ 10 by decide, show 10 < 30 by decide, rfl⟩, ⟨⟨show 7 ≤ 11 by decide, show 11 < 30 by decide, rfl⟩, had_t _⟩⟩⟩⟩
  | a2 _ _ => exact ⟨⟨show 7 ≤ 7 by decide, show 7 < 30 by decide, rfl⟩, ⟨⟨show 7 ≤ 8 by decide, show 8 < 30 by decide, list_t _⟩, ⟨⟨show 7 ≤ 10 by decide, show 10 < 30 by decide, rfl⟩, ⟨⟨show 7 ≤ 11 by decide, show 11 < 30 by decide, rfl⟩, had_t _⟩⟩⟩⟩
  | a3 _ _ _ => exact ⟨⟨show 7 ≤ 7 by decide, show 7 < 30 by decide, rfl⟩, ⟨⟨show 7 ≤ 8 by decide, show 8 < 30 by decide, list_t _⟩, ⟨⟨show 7 ≤ 10 by decide, show 10 < 30 by decide, rfl⟩, ⟨⟨show 7 ≤ 11 by decide, show 11 < 30 by decide, rfl⟩, had_t _⟩⟩⟩⟩
  | a4 _ _ => exact ⟨⟨show 7 ≤ 7 by decide, show 7 < 30 by decide, rfl⟩, ⟨⟨show 7 ≤ 8 by decide, show 8 < 30 by decide, list_t _⟩, ⟨⟨show 7 ≤ 10 by decide, show 10 < 30 by decide, rfl⟩, ⟨⟨show 7 ≤ 11 by decide, show 11 < 30 by decide, rfl⟩, had_t _⟩⟩⟩⟩
  | b1 _ => exact ⟨⟨show 7 ≤ 7 by decide, show 7 < 30 by decide, rfl⟩, ⟨⟨show 7 ≤ 8 by decide, show 8 < 30 by decide, list_t _⟩, ⟨⟨show 7 ≤ 10 by decide, show 10 < 30 by decide, rfl⟩, ⟨⟨show 7 ≤ 11 by decide, show 11 < 30 by decide, rfl⟩, had_t _⟩⟩⟩⟩
  | b2 _ _ => exact ⟨⟨show 7 ≤ 7 by decide, show 7 < 30 by decide, rfl⟩, ⟨⟨show 7 ≤ 8 by decide, show 8 < 30 by decide, list_t _⟩, ⟨⟨show 7 ≤ 10 by decide, show 10 < 30 by decide, rfl⟩, ⟨⟨show 7 ≤ 11 by decide, show 11 < 30 by decide, rfl⟩, had_t _⟩⟩⟩⟩
  | k1 _ => exact ⟨⟨show 7 ≤ 7 by decide, show 7 < 30 by decide, rfl⟩, ⟨⟨show 7 ≤ 8 by decide, show 8 < 30 by decide, list_t _⟩, ⟨⟨show 7 ≤ 10 by decide, show 10 < 30 by decide, rfl⟩, ⟨⟨show 7 ≤ 11 by decide, show 11 < 30 by decide, rfl⟩, had_t _⟩⟩⟩⟩
  | k2 _ _ => exact ⟨⟨show 7 ≤ 7 by decide, show 7 < 30 by decide, rfl⟩, ⟨⟨show 7 ≤ 8 by decide, show 8 < 30 by decide, list_t _⟩, ⟨⟨show 7 ≤ 10 by decide, show 10 < 30 by decide, rfl⟩, ⟨⟨show 7 ≤ 11 by decide, show 11 < 30 by decide, rfl⟩, ⟨⟨show 7 ≤ 14 by decide, show 14 < 30 by decide, row_names _ _ _⟩, had_t _⟩⟩⟩⟩⟩
  | e0 _ => exact ⟨⟨show 7 ≤ 7 by decide, show 7 < 30 by decide, rfl⟩, ⟨⟨show 7 ≤ 8 by decide, show 8 < 30 by decide, list_t _⟩, ⟨⟨show 7 ≤ 10 by decide, show 10 < 30 by decide, rfl⟩, ⟨⟨show 7 ≤ 11 by decide, show 11 < 30 by decide, rfl⟩, ⟨⟨show 7 ≤ 16 by decide, show 16 < 30 by decide, rfl⟩, had_t _⟩⟩⟩⟩⟩
  | f1 _ => exact ⟨⟨show 7 ≤ 7 by decide, show 7 < 30 by decide, rfl⟩, ⟨⟨show 7 ≤ 8 by decide, show 8 < 30 by decide, rfl⟩, ⟨⟨show 7 ≤ 10 by decide, show 10 < 30 by decide, rfl⟩, ⟨⟨show 7 ≤ 15 by decide, show 15 < 30 by decide, ents_names _ _⟩, ⟨⟨show 7 ≤ 19 by decide, show 19 < 30 by decide, refs_names _ _⟩, ⟨⟨show 7 ≤ 11 by decide, show 11 < 30 by decide, rfl⟩, ⟨⟨show 7 ≤ 17 by decide, show 17 < 30 by decide, rfl⟩, ⟨⟨show 7 ≤ 18 by decide, show 18 < 30 by decide, rfl⟩, trivial⟩⟩⟩⟩⟩⟩⟩⟩
  | f2 _ => exact ⟨⟨show 7 ≤ 7 by decide, show 7 < 30 by decide, rfl⟩, ⟨⟨show 7 ≤ 8 by decide, show 8 < 30 by decide, rfl⟩, ⟨⟨show 7 ≤ 10 by decide, show 10 < 30 by decide, rfl⟩, ⟨⟨show 7 ≤ 15 by decide, show 15 < 30 by decide, ents_names _ _⟩, ⟨⟨show 7 ≤ 19 by decide, show 19 < 30 by decide, refs_names _ _⟩, ⟨⟨show 7 ≤ 11 by decide, show 11 < 30 by decide, rfl⟩, ⟨⟨show 7 ≤ 17 by decide, show 17 < 30 by decide, rfl⟩, ⟨⟨show 7 ≤ 18 by decide, show 18 < 30 by decide, rfl⟩, trivial⟩⟩⟩⟩⟩⟩⟩⟩
  | f3 _ => exact ⟨⟨show 7 ≤ 7 by decide, show 7 < 30 by decide, rfl⟩, ⟨⟨show 7 ≤ 8 by decide, show 8 < 30 by decide, rfl⟩, ⟨⟨show 7 ≤ 10 by decide, show 10 < 30 by decide, rfl⟩, ⟨⟨show 7 ≤ 15 by decide, show 15 < 30 by decide, ents_names _ _⟩, ⟨⟨show 7 ≤ 19 by decide, show 19 < 30 by decide, refs_names _ _⟩, ⟨⟨show 7 ≤ 11 by decide, show 11 < 30 by decide, rfl⟩, ⟨⟨show 7 ≤ 17 by decide, show 17 < 30 by decide, rfl⟩, ⟨⟨show 7 ≤ 18 by decide, show 18 < 30 by decide, rfl⟩, trivial⟩⟩⟩⟩⟩⟩⟩⟩
  | f4 _ => exact ⟨⟨show 7 ≤ 7 by decide, show 7 < 30 by decide, rfl⟩, ⟨⟨show 7 ≤ 8 by decide, show 8 < 30 by decide, rfl⟩, ⟨⟨show 7 ≤ 10 by decide, show 10 < 30 by decide, rfl⟩, ⟨⟨show 7 ≤ 15 by decide, show 15 < 30 by decide, ents_names _ _⟩, ⟨⟨show 7 ≤ 19 by decide, show 19 < 30 by decide, refs_names _ _⟩, ⟨⟨show 7 ≤ 11 by decide, show 11 < 30 by decide, rfl⟩, ⟨⟨show 7 ≤ 17 by decide, show 17 < 30 by decide, rfl⟩, trivial⟩⟩⟩⟩⟩⟩⟩
  | f5 _ _ => exact ⟨⟨show 7 ≤ 7 by decide, show 7 < 30 by decide, rfl⟩, ⟨⟨show 7 ≤ 8 by decide, show 8 < 30 by decide, rfl⟩, ⟨⟨show 7 ≤ 10 by decide, show 10 < 30 by decide, rfl⟩, ⟨⟨show 7 ≤ 15 by decide, show 15 < 30 by decide, ents_names _ _⟩, ⟨⟨show 7 ≤ 19 by decide, show 19 < 30 by decide, refs_names _ _⟩, ⟨⟨show 7 ≤ 11 by decide, show 11 < 30 by decide, rfl⟩, ⟨⟨show 7 ≤ 17 by decide, show 17 < 30 by decide, rfl⟩, trivial⟩⟩⟩⟩⟩⟩⟩
  | f6 _ _ => exact ⟨⟨show 7 ≤ 7 by decide, show 7 < 30 by decide, rfl⟩, ⟨⟨show 7 ≤ 8 by decide, show 8 < 30 by decide, rfl⟩, ⟨⟨show 7 ≤ 10 by decide, show 10 < 30 by decide, rfl⟩, ⟨⟨show 7 ≤ 15 by decide, show 15 < 30 by decide, ents_names _ _⟩, ⟨⟨show 7 ≤ 19 by decide, show 19 < 30 by decide, refs_names _ _⟩, ⟨⟨show 7 ≤ 11 by decide, show 11 < 30 by decide, rfl⟩, ⟨⟨show 7 ≤ 17 by decide, show 17 < 30 by decide, rfl⟩, trivial⟩⟩⟩⟩⟩⟩⟩
  | dn m =>
    cases m with
    | zero => exact ⟨⟨show 7 ≤ 7 by decide, show 7 < 30 by decide, rfl⟩, ⟨⟨show 7 ≤ 8 by decide, show 8 < 30 by decide, rfl⟩, ⟨⟨show 7 ≤ 10 by decide, show 10 < 30 by decide, rfl⟩, trivial⟩⟩⟩
    | succ m => exact ⟨⟨show 7 ≤ 7 by decide, show 7 < 30 by decide, rfl⟩, ⟨⟨show 7 ≤ 8 by decide, show 8 < 30 by decide, rfl⟩, ⟨⟨show 7 ≤ 10 by decide, show 10 < 30 by decide, rfl⟩, ⟨⟨show 7 ≤ 19 by decide, show 19 < 30 by decide, refs_names _ _⟩, trivial⟩⟩⟩⟩
structure TwoP (n hw : Nat) (k : Bool) (l o : LS) (M : PM) (s : AS) (b tw : Nat) (Ks : List Nat) (π π2 : Nat → Nat) : Prop where
  A : At Tryz.prog (mem M ++ own n hw k (sc o) l) Fz0 s π
  B : At Tryz.prog (mem M ++ own n hw (!k) (sc l) o) Fz0 s π2
  m4 : π 4 = b ∧ π2 4 = b
  m5 : π 5 = π2 5
  m6 : π 6 = tw ∧ π2 6 = tw
  dis : ∀ x ∈ tl n hw k l, ∀ y ∈ tl n hw (!k) o, π x.1 ≠ π2 y.1
  ks : ∀ c ∈ Ks, c < s.nx ∧ (∀ x ∈ mem M ++ own n hw k (sc o) l, π x.1 ≠ c) ∧ (∀ x ∈ mem M ++ own n hw (!k) (sc l) o, π2 x.1 ≠ c)
theorem TwoP.symm {n hw : Nat} {k : Bool} {l o : LS} {M : PM} {s : AS} {b tw : Nat} {Ks : List Nat} {π π2 : Nat → Nat} (h : TwoP n hw k l o M s b tw Ks π π2) : TwoP n hw (!k) o l M s b tw Ks π2 π :=
  ⟨h.B, by rw [Bool.not_not]; exact h.A, ⟨h.m4.2, h.m4.1⟩, h.m5.symm, ⟨h.m6.2, h.m6.1⟩, fun x hx y hy e => h.dis y (by rw [Bool.not_not] at hy; exact hy) x hx e.symm, fun c hc => ⟨(h.ks c hc).1, (h.ks c hc).2.2, by rw [Bool.not_not]; exact (h.ks c hc).2.1⟩⟩
theorem mem_own {n hw : Nat} {k y : Bool} {l : LS} {M : PM} {x : Nat × AObj} (hx : x ∈ mem M ++ own n hw k y l) : x = (4, .cells false (M.C (.map 5))) ∨ x = (5, mapO M.ms) ∨ x = (6, twoO k (xv (sc l)) (yv y)) ∨ x ∈ tl n hw k l := by
  rw [own_eq] at hx
  simpa only [mem, List.cons_append, List.nil_append, List.mem_cons, List.not_mem_nil, or_false] using hx
theorem own_mem {n hw : Nat} {k y : Bool} {l : LS} {M : PM} {x : Nat × AObj} (hx : x = (4, .cells false (M.C (.map 5))) ∨ x = (5, mapO M.ms) ∨ x = (6, twoO k (xv (sc l)) (yv y)) ∨ x ∈ tl n hw k l) : x ∈ mem M ++ own n hw k y l := by
  rw [own_eq]
  simpa only [mem, List.cons_append, List.nil_append, List.mem_cons, List.not_mem_nil, or_false] using hx
theorem xv_ren (b : Bool) (π : Nat → Nat) : (xv b).ren π = bif b then .ptr (π 10) 0 else .nilPtr := by cases b <;> rfl
theorem yv_ren (b : Bool) (π : Nat → Nat) : (yv b).ren π = bif b then .ptr (π 32) 0 else .nilPtr := by cases b <;> rfl
def cells6 (k : Bool) (a b : Nat) (x : AV) (c d : Nat) (y : AV) : AObj := .cells false (QQ k [.ptr a 0, .ptr b 0, x] [.ptr c 0, .ptr d 0, y])
theorem two_ren (k : Bool) (x y : AV) (π : Nat → Nat) : (twoO k x y).ren π = cells6 k (π 7) (π 9) (x.ren π) (π 30) (π 31) (y.ren π) := by cases k <;> rfl
theorem cells6_not (k : Bool) (a b : Nat) (x : AV) (c d : Nat) (y : AV) : cells6 (!k) a b x c d y = cells6 k c d y a b x := by cases k <;> rfl
theorem cells6_inj {k : Bool} {a b : Nat} {x : AV} {c d : Nat} {y : AV} {a2 b2 : Nat} {x2 : AV} {c2 d2 : Nat} {y2 : AV} (h : cells6 k a b x c d y = cells6 k a2 b2 x2 c2 d2 y2) : a = a2 ∧ b = b2 ∧ x = x2 ∧ c = c2 ∧ d = d2 ∧ y = y2 := by
  cases k <;> simp only [cells6, QQ, _root_.cond_true, _root_.cond_false, List.cons_append, List.nil_append, AObj.cells.injEq, List.cons.injEq, AV.ptr.injEq, and_true, true_and] at h <;> obtain ⟨h1, h2, h3, h4, h5, h6⟩ := h
  · exact ⟨h1, h2, h3, h4, h5, h6⟩
  · exact ⟨h4, h5, h6, h1, h2, h3⟩
theorem TwoP.step {n hw : Nat} {k : Bool} {l l2 o : LS} {M M2 : PM} {s : AS} {b tw : Nat} {Ks : List Nat} {π π2 κ : Nat → Nat} (h : TwoP n hw k l o M s b tw Ks π π2) (hκ : KOk κ) (_ : Keeps κ l l2)
    (hs : StepF Tryz.prog Fz0 40 13 [.ptr 6 (bif k then 3 else 0), .ptr 4 0] (.tuple []) (mem M ++ own n hw k (sc o) l) (mem M2 ++ own n hw k (sc o) l2) κ) :
    ∃ s' π' π2', Sound Tryz.prog (.call 13 [.ptr tw (bif k then 3 else 0), .ptr b 0] s) ⟨.ret, [.tuple []], s'⟩ ∧ TwoP n hw k l2 o M2 s' b tw Ks π' π2' ∧ (∀ c ∈ Ks, s'.get c = s.get c) ∧ s.nx ≤ s'.nx := by
  obtain ⟨s', π', hS, A', Mv⟩ := hs s π h.A
  have low : ∀ c, c < 10 → π' c = π c := fun c hc => Mv.low c (by omega) (hκ.1 c hc)
  have low3 : ∀ c, 30 ≤ c → c < 40 → π' c = π c := fun c h1 h2 => Mv.low c h2 (hκ.2 c h1 h2)
  have e4 : π' 4 = b := (low 4 (by omega)).trans h.m4.1
  have e6 : π' 6 = tw := (low 6 (by omega)).trans h.m6.1
  have e5 : π' 5 = π2 5 := (low 5 (by omega)).trans h.m5
  let π2' : Nat → Nat := fun c => if c = 32 then π' 10 else π2 c
  have p2 : ∀ c, c ≠ 32 → π2' c = π2 c := fun c hc => if_neg hc
  have t6 : (6, twoO k (xv (sc l)) (yv (sc o))) ∈ mem M ++ own n hw k (sc o) l := own_mem (.inr (.inr (.inl rfl)))
  have t6' : (6, twoO k (xv (sc l2)) (yv (sc o))) ∈ mem M2 ++ own n hw k (sc o) l2 := own_mem (.inr (.inr (.inl rfl)))
  have u6 : (6, twoO (!k) (xv (sc o)) (yv (sc l))) ∈ mem M ++ own n hw (!k) (sc l) o := own_mem (.inr (.inr (.inl rfl)))
  have g1 := eachX_mem h.A.at_ _ t6
  have g2 := eachX_mem h.B.at_ _ u6
  have g3 := eachX_mem A'.at_ _ t6'
  have hq : cells6 k (π 7) (π 9) ((xv (sc l)).ren π) (π 30) (π 31) ((yv (sc o)).ren π) = cells6 k (π2 30) (π2 31) ((yv (sc l)).ren π2) (π2 7) (π2 9) ((xv (sc o)).ren π2) := by
    have : s.get (π 6) = s.get (π2 6) := by rw [h.m6.1, h.m6.2]
    rw [g1, g2] at this
    simp only [Option.some.injEq] at this
    rw [two_ren, two_ren, cells6_not] at this
    exact this
  obtain ⟨q1, q2, q3, q4, q5, q6⟩ := cells6_inj hq
  -- what of the other one lies elsewhere
  have far : ∀ y ∈ tl n hw (!k) o, s'.get (π2 y.1) = s.get (π2 y.1) := fun y hy => by
    have my : y ∈ mem M ++ own n hw (!k) (sc l) o := own_mem (.inr (.inr (.inr hy)))
    have ky : y.1 ∈ (mem M ++ own n hw (!k) (sc l) o).map (·.1) := List.mem_map.2 ⟨y, my, rfl⟩
    have y7 := (eachX_mem (tl_ok n hw (!k) o) y hy).1
    refine Mv.rest _ (h.B.lt ky) fun d hd e => ?_
    obtain ⟨x, hx, rfl⟩ := List.mem_map.1 hd
    have km : ∀ c, c ∈ (mem M ++ own n hw (!k) (sc l) o).map (·.1) → π2 c = π2 y.1 → c = y.1 := fun c hc e => h.B.inj c hc y.1 ky e
    rcases mem_own hx with rfl | rfl | rfl | hx
    · have := km 4 (List.mem_map.2 ⟨_, own_mem (.inl rfl), rfl⟩) (by rw [h.m4.2, ← h.m4.1]; exact e)
      omega
    · have := km 5 (List.mem_map.2 ⟨_, own_mem (.inr (.inl rfl)), rfl⟩) (by rw [← h.m5]; exact e)
      omega
    · have := km 6 (List.mem_map.2 ⟨_, own_mem (.inr (.inr (.inl rfl))), rfl⟩) (by rw [h.m6.2, ← h.m6.1]; exact e)
      omega
    · exact h.dis x hx y hy e
  have dis' : ∀ x ∈ tl n hw k l2, ∀ y ∈ tl n hw (!k) o, π' x.1 ≠ π2 y.1 := fun x hx y hy e => by
    have my : y ∈ mem M ++ own n hw (!k) (sc l) o := own_mem (.inr (.inr (.inr hy)))
    have ky : y.1 ∈ (mem M ++ own n hw (!k) (sc l) o).map (·.1) := List.mem_map.2 ⟨y, my, rfl⟩
    have x7 := (eachX_mem (tl_ok n hw k l2) x hx).1
    have kx : x.1 ∈ (mem M2 ++ own n hw k (sc o) l2).map (·.1) := List.mem_map.2 ⟨x, own_mem (.inr (.inr (.inr hx))), rfl⟩
    rcases Mv.old x.1 kx with ⟨d, hd, h1⟩ | h1
    · obtain ⟨z, hz, rfl⟩ := List.mem_map.1 hd
      have same : ∀ c, c < 10 → c ∈ (mem M2 ++ own n hw k (sc o) l2).map (·.1) → π' x.1 = π c → x.1 = c := fun c hc hm e => A'.inj x.1 kx c hm (by rw [e, low c hc])
      rcases mem_own hz with rfl | rfl | rfl | hz
      · have := same 4 (by omega) (List.mem_map.2 ⟨_, own_mem (.inl rfl), rfl⟩) h1
        omega
      · have := same 5 (by omega) (List.mem_map.2 ⟨_, own_mem (.inr (.inl rfl)), rfl⟩) h1
        omega
      · have := same 6 (by omega) (List.mem_map.2 ⟨_, own_mem (.inr (.inr (.inl rfl))), rfl⟩) h1
        omega
      · exact h.dis z hz y hy (h1 ▸ e)
    · have := h.B.lt ky
      omega
  refine ⟨s', π', π2', ?_, ⟨A', ⟨fun g hg => ?_, fun x hx => ?_, fun c hc x hx => ?_, fun c hc d hd e => ?_, eachX_all fun x hx => ?_, A'.keys⟩, ⟨e4, (p2 4 (by omega)).trans h.m4.2⟩, e5.trans (p2 5 (by omega)).symm, ⟨e6, (p2 6 (by omega)).trans h.m6.2⟩, fun x hx y hy e => ?_, fun c hc => ⟨?_, fun x hx e => ?_, fun x hx e => ?_⟩⟩, fun c hc => Mv.rest c (h.ks c hc).1 fun d hd => ?_, Mv.nx⟩
  · have : rens π [AV.ptr 6 (bif k then 3 else 0), AV.ptr 4 0] = [.ptr tw (bif k then 3 else 0), .ptr b 0] := by
      show [AV.ptr (π 6) _, AV.ptr (π 4) 0] = _
      rw [h.m6.1, h.m4.1]
    rw [this] at hS
    exact hS
  · rw [p2 g (by rw [glN] at hg; omega)]
    exact h.B.glob g hg
  · obtain ⟨ro, hr⟩ := A'.fz x hx
    simp only [Fz0, List.mem_cons, List.not_mem_nil, or_false] at hx
    subst hx
    have z1 := A'.glob 0 (by rw [glN]; omega)
    have z2 := h.B.glob 0 (by rw [glN]; omega)
    refine ⟨ro, ?_⟩
    show s'.get (π2' 0) = _
    rw [p2 0 (by omega), z2]
    have hr : s'.get (π' 0) = _ := hr
    rw [z1] at hr
    exact hr
  · obtain ⟨y, hy, rfl⟩ := List.mem_map.1 hc
    have y30 : y.1 < 30 := by
      rcases mem_own hy with rfl | rfl | rfl | hy
      · show 4 < 30; omega
      · show 5 < 30; omega
      · show 6 < 30; omega
      · exact (eachX_mem (tl_ok n hw (!k) o) y hy).2.1
    have : y.1 ∈ (mem M ++ own n hw (!k) (sc l) o).map (·.1) := by
      rcases mem_own hy with rfl | rfl | rfl | hy
      · exact List.mem_map.2 ⟨_, own_mem (.inl rfl), rfl⟩
      · exact List.mem_map.2 ⟨_, own_mem (.inr (.inl rfl)), rfl⟩
      · exact List.mem_map.2 ⟨_, own_mem (.inr (.inr (.inl rfl))), rfl⟩
      · exact List.mem_map.2 ⟨_, own_mem (.inr (.inr (.inr hy))), rfl⟩
    have hx0 : x.1 = 0 := by
      simp only [Fz0, List.mem_cons, List.not_mem_nil, or_false] at hx
      subst hx
      rfl
    rw [p2 y.1 (by omega), p2 x.1 (by omega)]
    exact h.B.out y.1 this x hx
  · have old : ∀ c, c ∈ (mem M2 ++ own n hw (!k) (sc l2) o).map (·.1) → c < 30 ∧ c ∈ (mem M ++ own n hw (!k) (sc l) o).map (·.1) := fun c hc => by
      obtain ⟨y, hy, rfl⟩ := List.mem_map.1 hc
      rcases mem_own hy with rfl | rfl | rfl | hy
      · exact ⟨by show 4 < 30; omega, List.mem_map.2 ⟨_, own_mem (.inl rfl), rfl⟩⟩
      · exact ⟨by show 5 < 30; omega, List.mem_map.2 ⟨_, own_mem (.inr (.inl rfl)), rfl⟩⟩
      · exact ⟨by show 6 < 30; omega, List.mem_map.2 ⟨_, own_mem (.inr (.inr (.inl rfl))), rfl⟩⟩
      · exact ⟨(eachX_mem (tl_ok n hw (!k) o) y hy).2.1, List.mem_map.2 ⟨_, own_mem (.inr (.inr (.inr hy))), rfl⟩⟩
    have e : π2' c = π2' d := e
    rw [p2 c (by have := (old c hc).1; omega), p2 d (by have := (old d hd).1; omega)] at e
    exact h.B.inj c (old c hc).2 d (old d hd).2 e
  · show s'.get (π2' x.1) = some (x.2.ren π2')
    rcases mem_own hx with rfl | rfl | rfl | hx
    · show s'.get (π2' 4) = some ((AObj.cells false (M2.C (.map 5))).ren π2')
      have := eachX_mem A'.at_ _ (own_mem (x := (4, .cells false (M2.C (.map 5)))) (.inl rfl))
      rw [p2 4 (by omega), h.m4.2, ← e4]
      rw [this]
      show some (AObj.cells false (M2.C (.map (π' 5)))) = some (AObj.cells false (M2.C (.map (π2' 5))))
      rw [e5, p2 5 (by omega)]
    · show s'.get (π2' 5) = some ((mapO M2.ms).ren π2')
      have := eachX_mem A'.at_ _ (own_mem (x := (5, mapO M2.ms)) (.inr (.inl rfl)))
      rw [p2 5 (by omega), ← e5]
      rw [this]
      show some ((mapO M2.ms).ren π') = _
      rw [mapO_ren, mapO_ren]
    · show s'.get (π2' 6) = some ((twoO (!k) (xv (sc o)) (yv (sc l2))).ren π2')
      rw [p2 6 (by omega), h.m6.2, ← e6]
      rw [g3]
      show some ((twoO k (xv (sc l2)) (yv (sc o))).ren π') = _
      rw [two_ren, two_ren, cells6_not, low 7 (by omega), low 9 (by omega), low3 30 (by omega) (by omega), low3 31 (by omega) (by omega), p2 7 (by omega), p2 9 (by omega), p2 30 (by omega), p2 31 (by omega), q1, q2, q4, q5]
      have r1 : (yv (sc o)).ren π' = (xv (sc o)).ren π2' := by
        have : (yv (sc o)).ren π' = (yv (sc o)).ren π := by rw [yv_ren, yv_ren, low3 32 (by omega) (by omega)]
        rw [this, q6, xv_ren, xv_ren, p2 10 (by omega)]
      have r2 : (xv (sc l2)).ren π' = (yv (sc l2)).ren π2' := by
        rw [xv_ren, yv_ren]
        show _ = bif sc l2 then AV.ptr (if (32 : Nat) = 32 then π' 10 else π2 32) 0 else .nilPtr
        rw [if_pos rfl]
      rw [r1, r2]
    · have k1 := eachX_mem (tl_ok n hw (!k) o) x hx
      have k2 := eachX_mem h.B.at_ x (own_mem (.inr (.inr (.inr hx))))
      rw [p2 x.1 (by have := k1.2.1; omega), far x hx, k2]
      congr 1
      refine oren_congr (fun c hc => ?_) k1.2.2
      have : c < 30 := Nat.blt_eq ▸ hc
      exact (p2 c (by omega)).symm
  · have y30 := (eachX_mem (tl_ok n hw (!k) o) y hy).2.1
    rw [p2 y.1 (by omega)] at e
    exact dis' x hx y hy e
  · have := (h.ks c hc).1
    have := Mv.nx
    omega
  · have kx : x.1 ∈ (mem M2 ++ own n hw k (sc o) l2).map (·.1) := List.mem_map.2 ⟨x, hx, rfl⟩
    rcases Mv.old x.1 kx with ⟨d, hd, h1⟩ | h1
    · obtain ⟨z, hz, rfl⟩ := List.mem_map.1 hd
      exact (h.ks c hc).2.1 z hz (h1 ▸ e)
    · have := (h.ks c hc).1
      omega
  · have : ∃ z ∈ mem M ++ own n hw (!k) (sc l) o, π2' x.1 = π2 z.1 := by
      rcases mem_own hx with rfl | rfl | rfl | hx
      · exact ⟨_, own_mem (.inl rfl), p2 4 (by omega)⟩
      · exact ⟨_, own_mem (.inr (.inl rfl)), p2 5 (by omega)⟩
      · exact ⟨_, own_mem (.inr (.inr (.inl rfl))), p2 6 (by omega)⟩
      · exact ⟨x, own_mem (.inr (.inr (.inr hx))), p2 x.1 (by have := (eachX_mem (tl_ok n hw (!k) o) x hx).2.1; omega)⟩
    obtain ⟨z, hz, h1⟩ := this
    exact (h.ks c hc).2.2 z hz (h1 ▸ e)
  · obtain ⟨z, hz, rfl⟩ := List.mem_map.1 hd
    exact (h.ks c hc).2.1 z hz
end Go.Proofs.YtimnagafechmbaaGreatDoor.scansOrphans
