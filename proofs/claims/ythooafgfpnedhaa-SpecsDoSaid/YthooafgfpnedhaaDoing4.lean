/- slices.Sort of numbers gives them in order. Conditions: those that each theorem names, and no others. -/
import Derived.Test.YthooafgfpnedhaaDoing3
import Derived.Test.YthooafgfpnedhaaDoing1
import Derived.Sort.LotA
import Derived.Sort.LotB
namespace Go.Proofs.Ythooafgfpnedhaa.specsDo.pq
open Go Go.Mini Go.Sort
/-! ### a row of numbers in block 0 -/
def ur (d : Array Int) : List AV := d.toList.map fun x => .int .u64 x
theorem ur_nm (p : Nat → Bool) (d : Array Int) : namess p (ur d) = true := by
  unfold ur
  induction d.toList with
  | nil => rfl
  | cons x l ih => show (true && namess p _) = true; rw [ih]; rfl
def bsA (D : List AV) : List (Nat × AObj) := [(0, .cells false D)]
theorem t30p : Try.prog.underlying 30 = some (.slice 22) := by kernel_rfl
theorem z22 : sizeA Try.prog 22 = some 1 := by kernel_rfl
theorem g22 : isAggA Try.prog 22 = some false := by kernel_rfl
theorem idxP {n k : Nat} (hk : k < n) : (Qst.idx 30 (.osl 0 0 n 1) (.int .i64 (Int.ofNat k)) (.ptr 0 k)).ok Try.prog := by
  simp only [Qst.ok, indexAddrA, t30p, z22]
  rw [if_pos ⟨by simp, by simp; omega⟩]
  simp
theorem ur_get {d : Array Int} {k : Nat} (h : k < d.size) : (ur d)[k]? = some (.int .u64 d[k]!) := by
  have : d[k]! = d[k] := by simp [h]
  simp [ur, h]
theorem ldP {d : Array Int} {k : Nat} {s : AS} (h : k < d.size) (hs : s.get 0 = some (.cells false (ur d)) := by rfl) : (Qst.ld 22 s (.ptr 0 k) (.int .u64 d[k]!)).ok Try.prog :=
  ld_cell g22 hs (ur_get h)
theorem spliceP {v : AV} : ∀ {cs : List AV} {k : Nat}, k < cs.length → Go.Mini.splice k [v] cs = some (cs.set k v)
  | [], _, h => by simp at h
  | x :: cs, 0, _ => by simp [Go.Mini.splice]
  | x :: cs, k + 1, h => by
    have := spliceP (v := v) (cs := cs) (k := k) (by simpa using h)
    simp [Go.Mini.splice, this]
theorem ur_set {d : Array Int} {k : Nat} {y : Int} : (ur d).set k (.int .u64 y) = ur (d.setIfInBounds k y) := by simp [ur, List.map_set]
theorem ur_len (d : Array Int) : (ur d).length = d.size := by simp [ur]
theorem stoP {d : Array Int} {k : Nat} {y : Int} {s : AS} (hk : k < d.size) (hs : s.get 0 = some (.cells false (ur d)) := by rfl) :
    (Qst.sto s 22 (.ptr 0 k) (.int .u64 y) (.tuple []) (s.set 0 (.cells false (ur (d.setIfInBounds k y))))).ok Try.prog := by
  refine ⟨?_, rfl⟩
  have h1 : Go.Mini.splice k [.int .u64 y] (ur d) = some (ur (d.setIfInBounds k y)) := by rw [spliceP (by rw [ur_len]; exact hk), ur_set]
  simp only [storeA, z22]
  show (if Nat.beq [AV.int .u64 y].length 1 = true then writeA _ 0 k [.int .u64 y] else none) = _
  rw [if_pos (show Nat.beq [AV.int .u64 y].length 1 = true from rfl)]
  simp only [writeA, hs, h1]
  rfl
section
variable {c : Code} {ts ts1 ts2 : List AV} {D D2 : List AV} {e : AExit} {esc1 : Option Nat} {wr1 : List Nat}
theorem sameA : sameBut [0] (bsA D) (bsA D2) := ⟨_, _, rfl, rfl, .inl (by simp), rfl⟩
theorem SLA (h : Sound Try.prog (.code c ts ⟨⟨bsA D, 1, none, []⟩, 1⟩) ⟨e, ts1, ⟨⟨bsA D2, 1, esc1, wr1⟩, 1⟩⟩) (hts : seesT (fun b => b) (fun c => Nat.blt c 1) ts2 ts1) (hD : namess (fun c => Nat.blt c 1) D2 = true) : SoundL Try.prog [0] c ts (bsA D) 1 1 e ts2 (bsA D2) :=
  SoundL.intro h hts sameA ⟨⟨hD, rfl⟩, trivial⟩
theorem CSA {f : FuncId} {args : List AV} {v : AV} (h : Sound Try.prog (.call f args ⟨⟨bsA D, 1, none, []⟩, 1⟩) ⟨e, [v], ⟨⟨bsA D2, 1, esc1, wr1⟩, 1⟩⟩) (hv : v.names (fun c => Nat.blt c 1) = true) (hD : namess (fun c => Nat.blt c 1) D2 = true) (esc esc' : Option Nat) (W : List Nat) :
    Sound Try.prog (.call f args ⟨⟨bsA D, 1, esc, W⟩, 1⟩) ⟨.ret, [v], ⟨⟨bsA D2, 1, esc', [0] ++ W⟩, 1⟩⟩ :=
  Sound.keepW [0] h hv sameA ⟨⟨hD, rfl⟩, trivial⟩ esc esc' W
end
/-- A call that makes d' of the row d, hands v back, and does nothing else. -/
def CallP (f : FuncId) (args : List AV) (d d' : Array Int) (v : AV) : Prop := ∀ (esc esc' : Option Nat) (W : List Nat), Sound Try.prog (.call f args ⟨⟨bsA (ur d), 1, esc, W⟩, 1⟩) ⟨.ret, [v], ⟨⟨bsA (ur d'), 1, esc', [0] ++ W⟩, 1⟩⟩
theorem wrapP {x : Int} (h0 : -9223372036854775808 ≤ x) (h1 : x < 9223372036854775808) : IntKind.i64.wrap x = x := by
  simp [IntKind.wrap, IntKind.bits, IntKind.signed]; omega
theorem wI (x y : Int) (hx : x = y) (h0 : -9223372036854775808 ≤ x) (h1 : x < 9223372036854775808) : (Qst.val (some (AV.int .i64 (IntKind.i64.wrap x))) (AV.int .i64 y)).ok Try.prog := by
  simp only [Qst.ok]
  rw [wrapP h0 h1, hx]
theorem wN {n : Nat} (x : Int) (hx : x = Int.ofNat n) (h : n < 9223372036854775808) : (Qst.val (some (AV.int .i64 (IntKind.i64.wrap x))) (AV.int .i64 (Int.ofNat n))).ok Try.prog :=
  wI x _ hx (by rw [hx]; simp only [Int.ofNat_eq_natCast]; omega) (by rw [hx]; simp only [Int.ofNat_eq_natCast]; omega)
theorem quoN {x q y : Nat} (hq : y = x / q) (h : x < 9223372036854775808) : (Qst.val (some (AV.int .i64 (IntKind.i64.wrap ((Int.ofNat x).tdiv (Int.ofNat q))))) (AV.int .i64 (Int.ofNat y))).ok Try.prog := by
  have e : (Int.ofNat x).tdiv (Int.ofNat q) = Int.ofNat (x / q) := rfl
  rw [e, hq]
  exact wN _ rfl (Nat.lt_of_le_of_lt (Nat.div_le_self _ _) h)
theorem bq {p : Prop} [Decidable p] {r : Bool} (h : p ↔ r = true) : (Qst.val (some (AV.bool (decide p))) (AV.bool r)).ok Try.prog := by
  simp only [Qst.ok]
  cases r with
  | true => simp [h.2 rfl]
  | false =>
    have : ¬ p := fun hp => by have := h.1 hp; cases this
    simp [this]
theorem bT {p : Prop} [Decidable p] (h : p) : (Qst.val (some (AV.bool (decide p))) (AV.bool true)).ok Try.prog := bq ⟨fun _ => rfl, fun _ => h⟩
theorem bF {p : Prop} [Decidable p] (h : ¬ p) : (Qst.val (some (AV.bool (decide p))) (AV.bool false)).ok Try.prog := bq ⟨fun h' => absurd h' h, fun h' => by cases h'⟩
/-- cmp.Less. -/
theorem lessC (x y : Int) (s : AS) : Sound Try.prog (.call 70 [.int .u64 x, .int .u64 y] s) ⟨.ret, [.bool (ltInt x y)], s⟩ :=
  Sound.put (bs0 := []) (runX_sound mixed none_sound (ls_run x y (ltInt x y)) ⟨by simp [Qst.ok], by simp only [Qst.ok]; rfl, trivial⟩) noG (fun b => b) [] s trivial (fun b hb => by cases hb) List.nodup_nil List.nodup_nil (fun b hb => by cases hb) rfl rfl
theorem lessB {x y : Int} {s : AS} {r : Bool} (h : ltInt x y = r) : Sound Try.prog (.call 70 [.int .u64 x, .int .u64 y] s) ⟨.ret, [.bool r], s⟩ := h ▸ lessC x y s
@[simp] theorem swp_sz (d : Array Int) (i j : Nat) : (swp d i j).size = d.size := by simp [swp]
theorem insInner_sz (a : Nat) : ∀ (j : Nat) (d : Array Int), (insInner ltInt a j d).size = d.size
  | 0, d => rfl
  | j + 1, d => by
    unfold insInner
    split
    · rw [insInner_sz a j]; simp
    · rfl
end Go.Proofs.Ythooafgfpnedhaa.specsDo.pq
namespace Go.Proofs.Ythooafgfpnedhaa.specsDo.pq
open Go Go.Mini Go.Sort
/-! ### insertionSort, reverseRange -/
section
variable {n a b : Nat} (hn : n < 1000000)
include hn
theorem is_in (_ : b ≤ n) {i : Nat} : ∀ (j : Nat) (d : Array Int), n = d.size → j < n →
    SoundL Try.prog [0] (.loop (loopAt Try.prog 64 1)) (T64 n a b i (.int .i64 (Int.ofNat j))) (bsA (ur d)) 1 1 (.exit 2) (T64 n a b i uu) (bsA (ur (insInner ltInt a j d))) := by
  intro j
  induction j with
  | zero =>
    intro d hd hj
    refine SoundL.stop (SLA (runX_sound mixed none_sound (is_e1 n a b i 0 0 0 0 0 0 0 0 0 0 0 0 0 0 true (ur d) [] [] [] [] .nilFunc .nilFunc .nilFunc .nilFunc) ⟨bF (by simp), trivial⟩) ?_ (ur_nm _ _)) (by simp)
    unfold T64
    repeat (first | exact rfl | refine ⟨_, _, rfl, ?_, ?_⟩ | exact .inr ⟨rfl, rfl⟩ | exact .inl ⟨rfl, rfl⟩ | exact see_same _)
  | succ j ih =>
    intro d hd hj
    by_cases hja : a < j + 1
    · cases hl : ltInt d[j + 1]! d[j]! with
      | false =>
        have e : insInner ltInt a (j + 1) d = d := by rw [insInner, if_neg (by simp [hl])]
        rw [e]
        refine SoundL.stop (SLA (runX_sound mixed none_sound (is_e2 n a b i j 0 0 0 0 0 0 0 d[j+1]! d[j]! 0 0 0 0 true (ur d) [] [] [] [] .nilFunc .nilFunc .nilFunc .nilFunc)
          ⟨bT (by simp; omega), idxP (by omega), ldP (by omega), wN _ (by first | rfl | (simp only [Int.ofNat_eq_natCast]; omega)) (by omega), idxP (by omega), ldP (by omega), lessB hl, trivial⟩) ?_ (ur_nm _ _)) (by simp)
        unfold T64
        repeat (first | exact rfl | refine ⟨_, _, rfl, ?_, ?_⟩ | exact .inr ⟨rfl, rfl⟩ | exact .inl ⟨rfl, rfl⟩ | exact see_same _)
      | true =>
        have e : insInner ltInt a (j + 1) d = insInner ltInt a j (swp d (j + 1) j) := by rw [insInner, if_pos (by simp [hl]; omega)]
        rw [e]
        refine SoundL.next (SLA (runX_sound mixed none_sound (is_go n a b i j 0 0 0 0 0 0 0 d[j+1]! d[j]! 0 0 0 0 true (ur d) (ur (d.setIfInBounds (j+1) d[j]!)) (ur (swp d (j+1) j)) [] [] .nilFunc .nilFunc .nilFunc .nilFunc)
          ⟨bT (by simp; omega), idxP (by omega), ldP (by omega), wN _ (by first | rfl | (simp only [Int.ofNat_eq_natCast]; omega)) (by omega), idxP (by omega), ldP (by omega), lessB hl,
            wN _ (by first | rfl | (simp only [Int.ofNat_eq_natCast]; omega)) (by omega), wN _ (by first | rfl | (simp only [Int.ofNat_eq_natCast]; omega)) (by omega), idxP (by omega), ldP (by omega), idxP (by omega), ldP (by omega), idxP (by omega), stoP (by omega), idxP (by omega), stoP (by simp; omega), wN _ (by first | rfl | (simp only [Int.ofNat_eq_natCast]; omega)) (by omega), trivial⟩) ?_ (ur_nm _ _)) (ih _ (by simp [hd]) (by omega))
        unfold T64
        repeat (first | exact rfl | refine ⟨_, _, rfl, ?_, ?_⟩ | exact .inr ⟨rfl, rfl⟩ | exact .inl ⟨rfl, rfl⟩ | exact see_same _)
    · have e : insInner ltInt a (j + 1) d = d := by rw [insInner, if_neg (by simp; omega)]
      rw [e]
      refine SoundL.stop (SLA (runX_sound mixed none_sound (is_e1 n a b i (j+1) 0 0 0 0 0 0 0 0 0 0 0 0 0 true (ur d) [] [] [] [] .nilFunc .nilFunc .nilFunc .nilFunc) ⟨bF (by simp; omega), trivial⟩) ?_ (ur_nm _ _)) (by simp)
      unfold T64
      repeat (first | exact rfl | refine ⟨_, _, rfl, ?_, ?_⟩ | exact .inr ⟨rfl, rfl⟩ | exact .inl ⟨rfl, rfl⟩ | exact see_same _)
theorem is_outer (hb : b ≤ n) : ∀ (m i : Nat) (d : Array Int), m = b - i → n = d.size →
    ∃ g, SoundL Try.prog [0] (.loop (loopAt Try.prog 64 0)) (T64 n a b i uu) (bsA (ur d)) 1 1 (.exit 0) (T64 n a b g uu) (bsA (ur (insOuter ltInt a b i d))) := by
  intro m
  induction m with
  | zero =>
    intro i d hm hd
    have e : insOuter ltInt a b i d = d := by rw [insOuter, if_neg (by omega)]
    rw [e]
    refine ⟨i, SoundL.stop (SLA (runX_sound mixed none_sound (is_end n a b i 0 0 0 0 0 0 0 0 0 0 0 0 0 0 true (ur d) [] [] [] [] .nilFunc .nilFunc .nilFunc .nilFunc) ⟨bF (by simp; omega), trivial⟩) ?_ (ur_nm _ _)) (by simp)⟩
    unfold T64
    repeat (first | exact rfl | refine ⟨_, _, rfl, ?_, ?_⟩ | exact .inr ⟨rfl, rfl⟩ | exact .inl ⟨rfl, rfl⟩ | exact see_same _)
  | succ m ih =>
    intro i d hm hd
    have e : insOuter ltInt a b i d = insOuter ltInt a b (i + 1) (insInner ltInt a i d) := by rw [insOuter, if_pos (by omega)]
    rw [e]
    obtain ⟨g, hg⟩ := ih (i + 1) (insInner ltInt a i d) (by omega) (by rw [insInner_sz]; exact hd)
    have h1 := is_in hn hb (a := a) (i := i) i d hd (by omega) none none []
    refine ⟨g, SoundL.next (SLA (runX_sound mixed none_sound (is_out n a b i 0 0 0 0 0 0 0 0 0 0 0 0 0 0 true (ur d) (ur (insInner ltInt a i d)) [] [] [] .nilFunc .nilFunc .nilFunc .nilFunc) ⟨bT (by simp; omega), Sound.enter h1 ?_, wN _ (by first | rfl | (simp only [Int.ofNat_eq_natCast]; omega)) (by omega), trivial⟩) ?_ (ur_nm _ _)) hg⟩
    · unfold T64
      repeat (first | exact rfl | refine ⟨_, _, rfl, ?_, ?_⟩ | exact .inr ⟨rfl, rfl⟩ | exact .inl ⟨rfl, rfl⟩ | exact see_same _)
    · unfold T64
      repeat (first | exact rfl | refine ⟨_, _, rfl, ?_, ?_⟩ | exact .inr ⟨rfl, rfl⟩ | exact .inl ⟨rfl, rfl⟩ | exact see_same _)
theorem is_all {d : Array Int} (hd : n = d.size) (hb : b ≤ n) (ha : a ≤ n) : CallP 64 [.osl 0 0 n 1, .int .i64 (Int.ofNat a), .int .i64 (Int.ofNat b)] d (insertionSort ltInt d a b) undefA := by
  intro esc esc' W
  obtain ⟨g, hg⟩ := is_outer hn hb (a := a) _ (a + 1) d rfl hd
  have h := hg none none []
  refine CSA (runX_sound mixed none_sound (is_call n a b 0 0 0 g 0 0 0 0 0 0 0 0 0 0 0 true (ur d) (ur (insertionSort ltInt d a b)) [] [] [] .nilFunc .nilFunc .nilFunc .nilFunc) ⟨wN _ (by first | rfl | (simp only [Int.ofNat_eq_natCast]; omega)) (by omega), Sound.enter h ?_, trivial⟩) rfl (ur_nm _ _) esc esc' W
  unfold T64
  repeat (first | exact rfl | refine ⟨_, _, rfl, ?_, ?_⟩ | exact .inr ⟨rfl, rfl⟩ | exact .inl ⟨rfl, rfl⟩ | exact see_same _)
end
end Go.Proofs.Ythooafgfpnedhaa.specsDo.pq
namespace Go.Proofs.Ythooafgfpnedhaa.specsDo.pq
open Go Go.Mini Go.Sort
/-! ### reverseRange, siftDown, heapSort -/
theorem sd_sz : ∀ (m hi f r : Nat) (d : Array Int), hi - r ≤ m → (siftDown ltInt hi f r d).size = d.size := by
  intro m
  induction m with
  | zero => intro hi f r d h; rw [siftDown, dif_pos (by omega)]
  | succ m ih =>
    intro hi f r d h
    rw [siftDown]
    split
    · rfl
    · split
      · split
        · rfl
        · split
          · rw [ih _ _ _ _ (by omega)]; simp
          · rfl
      · split
        · rfl
        · rw [ih _ _ _ _ (by omega)]; simp
section
variable {n : Nat} (hn : n < 1000000)
include hn
theorem rv_loop : ∀ (m i j : Nat) (d : Array Int), j - i ≤ m → j < n → n = d.size →
    ∃ g h, SoundL Try.prog [0] (.loop (loopAt Try.prog 68 0)) (T68 n i j) (bsA (ur d)) 1 1 (.exit 0) (T68 n g h) (bsA (ur (reverseLoop i j d))) := by
  intro m
  induction m with
  | zero =>
    intro i j d h hj hd
    rw [reverseLoop, if_neg (by omega)]
    refine ⟨i, j, SoundL.stop (SLA (runX_sound mixed none_sound (rv_end n 0 0 i j 0 0 0 0 0 0 0 0 0 0 0 0 0 true (ur d) [] [] [] [] .nilFunc .nilFunc .nilFunc .nilFunc) ⟨bF (by simp; omega), trivial⟩) ?_ (ur_nm _ _)) (by simp)⟩
    unfold T68
    repeat (first | exact rfl | refine ⟨_, _, rfl, ?_, ?_⟩ | exact .inr ⟨rfl, rfl⟩ | exact .inl ⟨rfl, rfl⟩ | exact see_same _)
  | succ m ih =>
    intro i j d h hj hd
    rw [reverseLoop]
    by_cases hij : i < j
    · rw [if_pos hij]
      obtain ⟨g, q, hg⟩ := ih (i + 1) (j - 1) (swp d i j) (by omega) (by omega) (by simp [hd])
      refine ⟨g, q, SoundL.next (SLA (runX_sound mixed none_sound (rv_go n 0 0 i j 0 0 0 0 0 0 0 d[i]! d[j]! 0 0 0 0 true (ur d) (ur (d.setIfInBounds i d[j]!)) (ur (swp d i j)) [] [] .nilFunc .nilFunc .nilFunc .nilFunc)
        ⟨bT (by simp; omega), idxP (by omega), ldP (by omega), idxP (by omega), ldP (by omega), idxP (by omega), stoP (by omega), idxP (by omega), stoP (by simp; omega), wN _ (by first | rfl | (simp only [Int.ofNat_eq_natCast]; omega)) (by omega), wN _ (by first | rfl | (simp only [Int.ofNat_eq_natCast]; omega)) (by omega), trivial⟩) ?_ (ur_nm _ _)) hg⟩
      unfold T68
      repeat (first | exact rfl | refine ⟨_, _, rfl, ?_, ?_⟩ | exact .inr ⟨rfl, rfl⟩ | exact .inl ⟨rfl, rfl⟩ | exact see_same _)
    · rw [if_neg hij]
      refine ⟨i, j, SoundL.stop (SLA (runX_sound mixed none_sound (rv_end n 0 0 i j 0 0 0 0 0 0 0 0 0 0 0 0 0 true (ur d) [] [] [] [] .nilFunc .nilFunc .nilFunc .nilFunc) ⟨bF (by simp; omega), trivial⟩) ?_ (ur_nm _ _)) (by simp)⟩
      unfold T68
      repeat (first | exact rfl | refine ⟨_, _, rfl, ?_, ?_⟩ | exact .inr ⟨rfl, rfl⟩ | exact .inl ⟨rfl, rfl⟩ | exact see_same _)
theorem rv_all {a b : Nat} {d : Array Int} (hd : n = d.size) (hb : b ≤ n) (ha : a < b) : CallP 68 [.osl 0 0 n 1, .int .i64 (Int.ofNat a), .int .i64 (Int.ofNat b)] d (reverseRange d a b) undefA := by
  intro esc esc' W
  obtain ⟨g, q, hg⟩ := rv_loop hn _ a (b - 1) d (Nat.le_refl _) (by omega) hd
  have h := hg none none []
  refine CSA (runX_sound mixed none_sound (rv_call n a b 0 0 q g 0 0 0 0 0 0 0 0 0 0 0 true (ur d) (ur (reverseRange d a b)) [] [] [] .nilFunc .nilFunc .nilFunc .nilFunc) ⟨wN _ (by first | rfl | (simp only [Int.ofNat_eq_natCast]; omega)) (by omega), Sound.enter h ?_, trivial⟩) rfl (ur_nm _ _) esc esc' W
  unfold T68
  repeat (first | exact rfl | refine ⟨_, _, rfl, ?_, ?_⟩ | exact .inr ⟨rfl, rfl⟩ | exact .inl ⟨rfl, rfl⟩ | exact see_same _)
theorem sd_loop {b a : Nat} (hab : a + b ≤ n) : ∀ (m i : Nat) (d : Array Int), b - i ≤ m → i < 1000000 → n = d.size →
    ∃ g e, (e = .exit 0 ∨ e = .ret) ∧ SoundL Try.prog [0] (.loop (loopAt Try.prog 76 0)) (T76 n b a i) (bsA (ur d)) 1 1 e (T76 n b a g) (bsA (ur (siftDown ltInt b a i d))) := by
  intro m
  induction m with
  | zero =>
    intro i d h hi hd
    rw [siftDown, dif_pos (by omega)]
    refine ⟨i, .exit 0, .inl rfl, SoundL.stop (SLA (runX_sound mixed none_sound (sd_out n a b i 0 0 0 0 0 0 0 0 0 0 0 0 0 0 true (ur d) [] [] [] [] .nilFunc .nilFunc .nilFunc .nilFunc) ⟨wN _ (by first | rfl | (simp only [Int.ofNat_eq_natCast]; omega)) (by omega), wN _ (by first | rfl | (simp only [Int.ofNat_eq_natCast]; omega)) (by omega), bT (by simp; omega), trivial⟩) ?_ (ur_nm _ _)) (by simp)⟩
    unfold T76
    repeat (first | exact rfl | refine ⟨_, _, rfl, ?_, ?_⟩ | exact .inr ⟨rfl, rfl⟩ | exact .inl ⟨rfl, rfl⟩ | exact see_same _)
  | succ m ih =>
    intro i d h hi hd
    rw [siftDown]
    by_cases h1 : 2 * i + 1 ≥ b
    · rw [dif_pos h1]
      refine ⟨i, .exit 0, .inl rfl, SoundL.stop (SLA (runX_sound mixed none_sound (sd_out n a b i 0 0 0 0 0 0 0 0 0 0 0 0 0 0 true (ur d) [] [] [] [] .nilFunc .nilFunc .nilFunc .nilFunc) ⟨wN _ (by first | rfl | (simp only [Int.ofNat_eq_natCast]; omega)) (by omega), wN _ (by first | rfl | (simp only [Int.ofNat_eq_natCast]; omega)) (by omega), bT (by simp; omega), trivial⟩) ?_ (ur_nm _ _)) (by simp)⟩
      unfold T76
      repeat (first | exact rfl | refine ⟨_, _, rfl, ?_, ?_⟩ | exact .inr ⟨rfl, rfl⟩ | exact .inl ⟨rfl, rfl⟩ | exact see_same _)
    rw [dif_neg h1]
    have one (w : (2 * i + 1 + 1 < b && ltInt d[a + (2 * i + 1)]! d[a + (2 * i + 1) + 1]!) = false) :
        ∃ g e, (e = .exit 0 ∨ e = .ret) ∧ SoundL Try.prog [0] (.loop (loopAt Try.prog 76 0)) (T76 n b a i) (bsA (ur d)) 1 1 e (T76 n b a g) (bsA (ur (if !ltInt d[a + i]! d[a + (2 * i + 1)]! then d else siftDown ltInt b a (2 * i + 1) (swp d (a + i) (a + (2 * i + 1)))))) := by
      by_cases h2 : 2 * i + 1 + 1 < b
      · have hl : ltInt d[a + (2 * i + 1)]! d[a + (2 * i + 1) + 1]! = false := by simpa [h2] using w
        cases hs : ltInt d[a + i]! d[a + (2 * i + 1)]! with
        | false =>
          refine ⟨i, .ret, .inr rfl, SoundL.stop (SLA (runX_sound mixed none_sound (sd_stop_l n a b i 0 0 0 0 0 0 0 0 d[a+i]! d[a+(2*i+1)]! 0 0 d[a+(2*i+1)]! d[a+(2*i+1)+1]! true (ur d) [] [] [] [] .nilFunc .nilFunc .nilFunc .nilFunc)
            ⟨wN _ (by first | rfl | (simp only [Int.ofNat_eq_natCast]; omega)) (by omega), wN _ (by first | rfl | (simp only [Int.ofNat_eq_natCast]; omega)) (by omega), bF (by simp; omega), wN _ (by first | rfl | (simp only [Int.ofNat_eq_natCast]; omega)) (by omega), bT (by simp; omega), wN _ (by first | rfl | (simp only [Int.ofNat_eq_natCast]; omega)) (by omega), idxP (by omega), ldP (by omega), wN _ (by first | rfl | (simp only [Int.ofNat_eq_natCast]; omega)) (by omega), wN _ (by first | rfl | (simp only [Int.ofNat_eq_natCast]; omega)) (by omega), idxP (by omega), ldP (by omega), lessB hl, wN _ (by first | rfl | (simp only [Int.ofNat_eq_natCast]; omega)) (by omega), idxP (by omega), ldP (by omega), wN _ (by first | rfl | (simp only [Int.ofNat_eq_natCast]; omega)) (by omega), idxP (by omega), ldP (by omega), lessB hs, trivial⟩) ?_ (ur_nm _ _)) (by simp)⟩
          unfold T76
          repeat (first | exact rfl | refine ⟨_, _, rfl, ?_, ?_⟩ | exact .inr ⟨rfl, rfl⟩ | exact .inl ⟨rfl, rfl⟩ | exact see_same _)
        | true =>
          obtain ⟨g, e, he, hg⟩ := ih (2 * i + 1) (swp d (a + i) (a + (2 * i + 1))) (by omega) (by omega) (by simp [hd])
          refine ⟨g, e, he, SoundL.next (SLA (runX_sound mixed none_sound (sd_go_l n a b i 0 0 0 0 0 0 0 0 d[a+i]! d[a+(2*i+1)]! 0 0 d[a+(2*i+1)]! d[a+(2*i+1)+1]! true (ur d) (ur (d.setIfInBounds (a+i) d[a+(2*i+1)]!)) (ur (swp d (a+i) (a+(2*i+1)))) [] [] .nilFunc .nilFunc .nilFunc .nilFunc)
            ⟨wN _ (by first | rfl | (simp only [Int.ofNat_eq_natCast]; omega)) (by omega), wN _ (by first | rfl | (simp only [Int.ofNat_eq_natCast]; omega)) (by omega), bF (by simp; omega), wN _ (by first | rfl | (simp only [Int.ofNat_eq_natCast]; omega)) (by omega), bT (by simp; omega), wN _ (by first | rfl | (simp only [Int.ofNat_eq_natCast]; omega)) (by omega), idxP (by omega), ldP (by omega), wN _ (by first | rfl | (simp only [Int.ofNat_eq_natCast]; omega)) (by omega), wN _ (by first | rfl | (simp only [Int.ofNat_eq_natCast]; omega)) (by omega), idxP (by omega), ldP (by omega), lessB hl, wN _ (by first | rfl | (simp only [Int.ofNat_eq_natCast]; omega)) (by omega), idxP (by omega), ldP (by omega), wN _ (by first | rfl | (simp only [Int.ofNat_eq_natCast]; omega)) (by omega), idxP (by omega), ldP (by omega), lessB hs, wN _ (by first | rfl | (simp only [Int.ofNat_eq_natCast]; omega)) (by omega), wN _ (by first | rfl | (simp only [Int.ofNat_eq_natCast]; omega)) (by omega), wN _ (by first | rfl | (simp only [Int.ofNat_eq_natCast]; omega)) (by omega), idxP (by omega), ldP (by omega), wN _ (by first | rfl | (simp only [Int.ofNat_eq_natCast]; omega)) (by omega), idxP (by omega), ldP (by omega), idxP (by omega), stoP (by omega), idxP (by omega), stoP (by simp; omega), trivial⟩) ?_ (ur_nm _ _)) hg⟩
          unfold T76
          repeat (first | exact rfl | refine ⟨_, _, rfl, ?_, ?_⟩ | exact .inr ⟨rfl, rfl⟩ | exact .inl ⟨rfl, rfl⟩ | exact see_same _)
      · cases hs : ltInt d[a + i]! d[a + (2 * i + 1)]! with
        | false =>
          refine ⟨i, .ret, .inr rfl, SoundL.stop (SLA (runX_sound mixed none_sound (sd_stop_n n a b i 0 0 0 0 0 0 0 0 d[a+i]! d[a+(2*i+1)]! 0 0 0 0 true (ur d) [] [] [] [] .nilFunc .nilFunc .nilFunc .nilFunc)
            ⟨wN _ (by first | rfl | (simp only [Int.ofNat_eq_natCast]; omega)) (by omega), wN _ (by first | rfl | (simp only [Int.ofNat_eq_natCast]; omega)) (by omega), bF (by simp; omega), wN _ (by first | rfl | (simp only [Int.ofNat_eq_natCast]; omega)) (by omega), bF (by simp; omega), wN _ (by first | rfl | (simp only [Int.ofNat_eq_natCast]; omega)) (by omega), idxP (by omega), ldP (by omega), wN _ (by first | rfl | (simp only [Int.ofNat_eq_natCast]; omega)) (by omega), idxP (by omega), ldP (by omega), lessB hs, trivial⟩) ?_ (ur_nm _ _)) (by simp)⟩
          unfold T76
          repeat (first | exact rfl | refine ⟨_, _, rfl, ?_, ?_⟩ | exact .inr ⟨rfl, rfl⟩ | exact .inl ⟨rfl, rfl⟩ | exact see_same _)
        | true =>
          obtain ⟨g, e, he, hg⟩ := ih (2 * i + 1) (swp d (a + i) (a + (2 * i + 1))) (by omega) (by omega) (by simp [hd])
          refine ⟨g, e, he, SoundL.next (SLA (runX_sound mixed none_sound (sd_go_n n a b i 0 0 0 0 0 0 0 0 d[a+i]! d[a+(2*i+1)]! 0 0 0 0 true (ur d) (ur (d.setIfInBounds (a+i) d[a+(2*i+1)]!)) (ur (swp d (a+i) (a+(2*i+1)))) [] [] .nilFunc .nilFunc .nilFunc .nilFunc)
            ⟨wN _ (by first | rfl | (simp only [Int.ofNat_eq_natCast]; omega)) (by omega), wN _ (by first | rfl | (simp only [Int.ofNat_eq_natCast]; omega)) (by omega), bF (by simp; omega), wN _ (by first | rfl | (simp only [Int.ofNat_eq_natCast]; omega)) (by omega), bF (by simp; omega), wN _ (by first | rfl | (simp only [Int.ofNat_eq_natCast]; omega)) (by omega), idxP (by omega), ldP (by omega), wN _ (by first | rfl | (simp only [Int.ofNat_eq_natCast]; omega)) (by omega), idxP (by omega), ldP (by omega), lessB hs, wN _ (by first | rfl | (simp only [Int.ofNat_eq_natCast]; omega)) (by omega), wN _ (by first | rfl | (simp only [Int.ofNat_eq_natCast]; omega)) (by omega), wN _ (by first | rfl | (simp only [Int.ofNat_eq_natCast]; omega)) (by omega), idxP (by omega), ldP (by omega), wN _ (by first | rfl | (simp only [Int.ofNat_eq_natCast]; omega)) (by omega), idxP (by omega), ldP (by omega), idxP (by omega), stoP (by omega), idxP (by omega), stoP (by simp; omega), trivial⟩) ?_ (ur_nm _ _)) hg⟩
          unfold T76
          repeat (first | exact rfl | refine ⟨_, _, rfl, ?_, ?_⟩ | exact .inr ⟨rfl, rfl⟩ | exact .inl ⟨rfl, rfl⟩ | exact see_same _)
    cases w : (2 * i + 1 + 1 < b && ltInt d[a + (2 * i + 1)]! d[a + (2 * i + 1) + 1]!) with
    | false =>
      rw [if_neg (by simp)]
      exact one w
    | true =>
      rw [if_pos rfl]
      obtain ⟨h2, hl⟩ : 2 * i + 1 + 1 < b ∧ ltInt d[a + (2 * i + 1)]! d[a + (2 * i + 1) + 1]! = true := by simpa using w
      rw [dif_pos (show 2 * i + 2 < b by omega)]
      cases hs : ltInt d[a + i]! d[a + (2 * i + 2)]! with
      | false =>
        refine ⟨i, .ret, .inr rfl, SoundL.stop (SLA (runX_sound mixed none_sound (sd_stop_r n a b i 0 0 0 0 0 0 0 0 d[a+i]! d[a+(2*i+2)]! 0 0 d[a+(2*i+1)]! d[a+(2*i+1)+1]! true (ur d) [] [] [] [] .nilFunc .nilFunc .nilFunc .nilFunc)
          ⟨wN _ (by first | rfl | (simp only [Int.ofNat_eq_natCast]; omega)) (by omega), wN _ (by first | rfl | (simp only [Int.ofNat_eq_natCast]; omega)) (by omega), bF (by simp; omega), wN _ (by first | rfl | (simp only [Int.ofNat_eq_natCast]; omega)) (by omega), bT (by simp; omega), wN _ (by first | rfl | (simp only [Int.ofNat_eq_natCast]; omega)) (by omega), idxP (by omega), ldP (by omega), wN _ (by first | rfl | (simp only [Int.ofNat_eq_natCast]; omega)) (by omega), wN _ (by first | rfl | (simp only [Int.ofNat_eq_natCast]; omega)) (by omega), idxP (by omega), ldP (by omega), lessB hl, wN _ (by first | rfl | (simp only [Int.ofNat_eq_natCast]; omega)) (by omega), wN _ (by first | rfl | (simp only [Int.ofNat_eq_natCast]; omega)) (by omega), idxP (by omega), ldP (by omega), wN _ (by first | rfl | (simp only [Int.ofNat_eq_natCast]; omega)) (by omega), idxP (by omega), ldP (by omega), lessB hs, trivial⟩) ?_ (ur_nm _ _)) (by simp)⟩
        unfold T76
        repeat (first | exact rfl | refine ⟨_, _, rfl, ?_, ?_⟩ | exact .inr ⟨rfl, rfl⟩ | exact .inl ⟨rfl, rfl⟩ | exact see_same _)
      | true =>
        obtain ⟨g, e, he, hg⟩ := ih (2 * i + 2) (swp d (a + i) (a + (2 * i + 2))) (by omega) (by omega) (by simp [hd])
        refine ⟨g, e, he, SoundL.next (SLA (runX_sound mixed none_sound (sd_go_r n a b i 0 0 0 0 0 0 0 0 d[a+i]! d[a+(2*i+2)]! 0 0 d[a+(2*i+1)]! d[a+(2*i+1)+1]! true (ur d) (ur (d.setIfInBounds (a+i) d[a+(2*i+2)]!)) (ur (swp d (a+i) (a+(2*i+2)))) [] [] .nilFunc .nilFunc .nilFunc .nilFunc)
          ⟨wN _ (by first | rfl | (simp only [Int.ofNat_eq_natCast]; omega)) (by omega), wN _ (by first | rfl | (simp only [Int.ofNat_eq_natCast]; omega)) (by omega), bF (by simp; omega), wN _ (by first | rfl | (simp only [Int.ofNat_eq_natCast]; omega)) (by omega), bT (by simp; omega), wN _ (by first | rfl | (simp only [Int.ofNat_eq_natCast]; omega)) (by omega), idxP (by omega), ldP (by omega), wN _ (by first | rfl | (simp only [Int.ofNat_eq_natCast]; omega)) (by omega), wN _ (by first | rfl | (simp only [Int.ofNat_eq_natCast]; omega)) (by omega), idxP (by omega), ldP (by omega), lessB hl, wN _ (by first | rfl | (simp only [Int.ofNat_eq_natCast]; omega)) (by omega), wN _ (by first | rfl | (simp only [Int.ofNat_eq_natCast]; omega)) (by omega), idxP (by omega), ldP (by omega), wN _ (by first | rfl | (simp only [Int.ofNat_eq_natCast]; omega)) (by omega), idxP (by omega), ldP (by omega), lessB hs, wN _ (by first | rfl | (simp only [Int.ofNat_eq_natCast]; omega)) (by omega), wN _ (by first | rfl | (simp only [Int.ofNat_eq_natCast]; omega)) (by omega), wN _ (by first | rfl | (simp only [Int.ofNat_eq_natCast]; omega)) (by omega), idxP (by omega), ldP (by omega), wN _ (by first | rfl | (simp only [Int.ofNat_eq_natCast]; omega)) (by omega), idxP (by omega), ldP (by omega), idxP (by omega), stoP (by omega), idxP (by omega), stoP (by simp; omega), trivial⟩) ?_ (ur_nm _ _)) hg⟩
        unfold T76
        repeat (first | exact rfl | refine ⟨_, _, rfl, ?_, ?_⟩ | exact .inr ⟨rfl, rfl⟩ | exact .inl ⟨rfl, rfl⟩ | exact see_same _)
end
end Go.Proofs.Ythooafgfpnedhaa.specsDo.pq
namespace Go.Proofs.Ythooafgfpnedhaa.specsDo.pq
open Go Go.Mini Go.Sort
/-! ### heapSort -/
def cI (k : Nat) : Int := Int.ofNat k - 1
theorem cI_s (k : Nat) : cI (k + 1) = Int.ofNat k := by simp [cI]
theorem cI_z : cI 0 = -1 := rfl
theorem hb_sz (a h : Nat) : ∀ (k : Nat) (d : Array Int), (heapBuild ltInt h a k d).size = d.size
  | 0, d => rfl
  | k + 1, d => by
    show (heapBuild ltInt h a k (siftDown ltInt h a k d)).size = _
    rw [hb_sz a h k, sd_sz _ _ _ _ _ (Nat.le_refl _)]
section
variable {n : Nat} (hn : n < 1000000)
include hn
theorem sd_all {a b i : Nat} {d : Array Int} (hab : a + b ≤ n) (hi : i < 1000000) (hd : n = d.size) : CallP 76 [.osl 0 0 n 1, .int .i64 (Int.ofNat i), .int .i64 (Int.ofNat b), .int .i64 (Int.ofNat a)] d (siftDown ltInt b a i d) undefA := by
  intro esc esc' W
  obtain ⟨g, e, he, hg⟩ := sd_loop hn hab _ i d (Nat.le_refl _) hi hd
  have h := hg none none []
  rcases he with rfl | rfl
  · refine CSA (runX_sound mixed none_sound (sd_call n a b i 0 0 g 0 0 0 0 0 0 0 0 0 0 0 true (ur d) (ur (siftDown ltInt b a i d)) [] [] [] .nilFunc .nilFunc .nilFunc .nilFunc) ⟨Sound.enter h ?_, trivial⟩) rfl (ur_nm _ _) esc esc' W
    unfold T76
    repeat (first | exact rfl | refine ⟨_, _, rfl, ?_, ?_⟩ | exact .inr ⟨rfl, rfl⟩ | exact .inl ⟨rfl, rfl⟩ | exact see_same _)
  · refine CSA (runX_sound mixed none_sound (sd_callr n a b i 0 0 g 0 0 0 0 0 0 0 0 0 0 0 true (ur d) (ur (siftDown ltInt b a i d)) [] [] [] .nilFunc .nilFunc .nilFunc .nilFunc) ⟨Sound.enter h ?_, trivial⟩) rfl (ur_nm _ _) esc esc' W
    unfold T76
    repeat (first | exact rfl | refine ⟨_, _, rfl, ?_, ?_⟩ | exact .inr ⟨rfl, rfl⟩ | exact .inl ⟨rfl, rfl⟩ | exact see_same _)
theorem hb_loop {a h : Nat} (hah : a + h ≤ n) {u2 : AV} (hu : u2 = uu) : ∀ (k : Nat) (d : Array Int), k < 1000000 → n = d.size →
    SoundL Try.prog [0] (.loop (loopAt Try.prog 65 0)) (T65 n a h (.int .i64 (cI k)) u2) (bsA (ur d)) 1 1 (.exit 0) (T65 n a h (.int .i64 (-1)) u2) (bsA (ur (heapBuild ltInt h a k d))) := by
  intro k
  subst hu
  induction k with
  | zero =>
    intro d hk hd
    rw [cI_z]
    refine SoundL.stop (SLA (runX_sound mixed none_sound (hb_end n a 0 0 0 h 0 0 0 0 0 0 0 0 0 0 (-1) 0 true (ur d) [] [] [] [] .nilFunc uu .nilFunc .nilFunc) ⟨bF (by decide), trivial⟩) ?_ (ur_nm _ _)) (by simp)
    unfold T65
    repeat (first | exact rfl | refine ⟨_, _, rfl, ?_, ?_⟩ | exact .inr ⟨rfl, rfl⟩ | exact .inl ⟨rfl, rfl⟩ | exact see_same _)
  | succ k ih =>
    intro d hk hd
    rw [cI_s]
    have e : heapBuild ltInt h a (k + 1) d = heapBuild ltInt h a k (siftDown ltInt h a k d) := rfl
    rw [e]
    have h1 := sd_all hn (a := a) (b := h) (i := k) hah (by omega) hd
    refine SoundL.next (SLA (runX_sound mixed none_sound (hb_go n a 0 k 0 h 0 0 0 0 0 0 0 0 0 0 (cI k) 0 true (ur d) (ur (siftDown ltInt h a k d)) [] [] [] .nilFunc uu .nilFunc .nilFunc) ⟨rfl, h1 _ _ _, wI _ _ (by simp [cI]) (by simp only [Int.ofNat_eq_natCast]; omega) (by simp only [Int.ofNat_eq_natCast]; omega), trivial⟩) ?_ (ur_nm _ _)) (ih _ (by omega) (by rw [sd_sz _ _ _ _ _ (Nat.le_refl _)]; exact hd))
    unfold T65
    repeat (first | exact rfl | refine ⟨_, _, rfl, ?_, ?_⟩ | exact .inr ⟨rfl, rfl⟩ | exact .inl ⟨rfl, rfl⟩ | exact see_same _)
theorem hp_loop {a h : Nat} : ∀ (k : Nat) (d : Array Int), a + k ≤ n → n = d.size →
    SoundL Try.prog [0] (.loop (loopAt Try.prog 65 1)) (T65 n a h uu (.int .i64 (cI k))) (bsA (ur d)) 1 1 (.exit 2) (T65 n a h uu (.int .i64 (-1))) (bsA (ur (heapPop ltInt a k d))) := by
  intro k
  induction k with
  | zero =>
    intro d hk hd
    rw [cI_z]
    refine SoundL.stop (SLA (runX_sound mixed none_sound (hp_end n a 0 0 0 h 0 0 0 0 0 0 0 0 0 0 (-1) 0 true (ur d) [] [] [] [] .nilFunc .nilFunc .nilFunc .nilFunc) ⟨bF (by decide), trivial⟩) ?_ (ur_nm _ _)) (by simp)
    unfold T65
    repeat (first | exact rfl | refine ⟨_, _, rfl, ?_, ?_⟩ | exact .inr ⟨rfl, rfl⟩ | exact .inl ⟨rfl, rfl⟩ | exact see_same _)
  | succ k ih =>
    intro d hk hd
    rw [cI_s]
    have e : heapPop ltInt a (k + 1) d = heapPop ltInt a k (siftDown ltInt k a 0 (swp d a (a + k))) := rfl
    rw [e]
    have h1 := sd_all hn (a := a) (b := k) (i := 0) (d := swp d a (a + k)) (by omega) (by omega) (by simp [hd])
    refine SoundL.next (SLA (runX_sound mixed none_sound (hp_go n a 0 k 0 h 0 0 0 0 0 0 d[a]! d[a+k]! 0 0 (cI k) 0 true (ur d) (ur (d.setIfInBounds a d[a+k]!)) (ur (swp d a (a+k))) (ur (siftDown ltInt k a 0 (swp d a (a + k)))) [] .nilFunc .nilFunc .nilFunc .nilFunc)
      ⟨rfl, wN _ (by first | rfl | (simp only [Int.ofNat_eq_natCast]; omega)) (by omega), wN _ (by first | rfl | (simp only [Int.ofNat_eq_natCast]; omega)) (by omega), idxP (by omega), ldP (by omega), idxP (by omega), ldP (by omega), idxP (by omega), stoP (by omega), idxP (by omega), stoP (by simp; omega), h1 _ _ _, wI _ _ (by simp [cI]) (by simp only [Int.ofNat_eq_natCast]; omega) (by simp only [Int.ofNat_eq_natCast]; omega), trivial⟩) ?_ (ur_nm _ _)) (ih _ (by omega) (by rw [sd_sz _ _ _ _ _ (Nat.le_refl _)]; simp [hd]))
    unfold T65
    repeat (first | exact rfl | refine ⟨_, _, rfl, ?_, ?_⟩ | exact .inr ⟨rfl, rfl⟩ | exact .inl ⟨rfl, rfl⟩ | exact see_same _)
theorem hs_all {a b : Nat} {d : Array Int} (hd : n = d.size) (hb : b ≤ n) (ha : a < b) : CallP 65 [.osl 0 0 n 1, .int .i64 (Int.ofNat a), .int .i64 (Int.ofNat b)] d (heapSort ltInt d a b) undefA := by
  intro esc esc' W
  have h1 := hb_loop hn (a := a) (h := b - a) (by omega) (u2 := uu) rfl ((b - a - 1) / 2 + 1) d (by omega) hd none none []
  have h2 := hp_loop hn (a := a) (h := b - a) (b - a) (heapBuild ltInt (b - a) a ((b - a - 1) / 2 + 1) d) (by omega) (by rw [hb_sz]; exact hd) none none ([0] ++ [])
  refine CSA (runX_sound mixed none_sound (hs_call n a b 0 0 (b-a) 0 0 0 0 0 0 0 0 0 (cI (b-a)) (Int.ofNat (b-a-1)) (cI ((b-a-1)/2+1)) true (ur d) (ur (heapBuild ltInt (b - a) a ((b - a - 1) / 2 + 1) d)) (ur (heapSort ltInt d a b)) [] [] .nilFunc .nilFunc .nilFunc .nilFunc) ⟨wN _ (by first | rfl | (simp only [Int.ofNat_eq_natCast]; omega)) (by omega), wI _ _ (by simp only [Int.ofNat_eq_natCast]; omega) (by simp only [Int.ofNat_eq_natCast]; omega) (by simp only [Int.ofNat_eq_natCast]; omega), ?_, Sound.enter h1 ?_, wI _ _ (by simp [cI]) (by simp only [Int.ofNat_eq_natCast]; omega) (by simp only [Int.ofNat_eq_natCast]; omega), Sound.enter h2 ?_, trivial⟩) rfl (ur_nm _ _) esc esc' W
  · rw [cI_s]
    exact quoN rfl (by omega)
  · unfold T65
    repeat (first | exact rfl | refine ⟨_, _, rfl, ?_, ?_⟩ | exact .inr ⟨rfl, rfl⟩ | exact .inl ⟨rfl, rfl⟩ | exact see_same _)
  · unfold T65
    repeat (first | exact rfl | refine ⟨_, _, rfl, ?_, ?_⟩ | exact .inr ⟨rfl, rfl⟩ | exact .inl ⟨rfl, rfl⟩ | exact see_same _)
end
end Go.Proofs.Ythooafgfpnedhaa.specsDo.pq
namespace Go.Proofs.Ythooafgfpnedhaa.specsDo.pq
open Go Go.Mini
def T71 (n a i j : Nat) : List AV := .osl 0 0 n 1 :: .int .i64 (Int.ofNat a) :: uu :: uu :: uu :: uu :: uu :: uu :: uu :: .int .i64 (Int.ofNat i) :: .int .i64 (Int.ofNat j) :: List.replicate 73 uu
def T72 (n a i j : Nat) : List AV := .osl 0 0 n 1 :: .int .i64 (Int.ofNat a) :: uu :: uu :: uu :: uu :: uu :: uu :: uu :: uu :: .int .i64 (Int.ofNat i) :: .int .i64 (Int.ofNat j) :: List.replicate 156 uu
def T69 (n a b : Nat) (u1 : AV) (i k : Nat) (u2 u3 : AV) : List AV := .osl 0 0 n 1 :: .int .i64 (Int.ofNat a) :: .int .i64 (Int.ofNat b) :: uu :: uu :: uu :: u1 :: .int .i64 (Int.ofNat i) :: .int .i64 (Int.ofNat k) :: u2 :: u3 :: List.replicate 122 uu
end Go.Proofs.Ythooafgfpnedhaa.specsDo.pq
