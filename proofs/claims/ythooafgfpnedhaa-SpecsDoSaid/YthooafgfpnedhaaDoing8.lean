/- Set, Map and Queue of a State; The law SpecsDo; What an operation does, and that both states say the same. Conditions: those that each theorem names, and no others. -/
import Derived.Test.YthooafgfpnedhaaDoing7
import Derived.Test.YthooafgfpnedhaaDoing1
import Derived.Test.YthooafgfpnedhaaDoing2
import Derived.Test.YthooafgfpnedhaaDoing3
namespace Go.Proofs.Ythooafgfpnedhaa.specsDo.pq
open Go Go.Mini
theorem sn_go (n _ _ i _ h g _ _ _ _ _ : Nat) (_ _ _ v : Int) (o0 o1 : AObj) (_ _ : List AV) (u1 u2 _ : AV) : runX Try.prog none_ 80 16 (.code (loopAt Try.prog 16 0) (T16 u1 u2 i) ⟨⟨[(1, o1), (0, o0)], 2, none, []⟩, 2⟩) [.val 16 4 2 (iN (n)), .val 16 4 3 (.bool true), .val 16 6 2 (.ptr 0 (g)), .val 16 6 3 (iW v), .val 16 6 6 (.ptr 1 (h)), .val 16 6 7 (iW v), .val 16 6 8 (.bool false), .val 16 5 1 (iN (i + 1))] = some ({ e := .normal, ts := [u1, u2, jq, jq, jq, iN (i + 1), jq, jq, jq, jq, jq, jq, jq, jq, jq, jq, jq, jq, iN i, u1, iN n, .bool true, iN i, iN (i + 1), u1, iN i, .ptr 0 g, iW v, u2, iN i, .ptr 1 h, iW v, .bool false], s := ⟨⟨[(1, o1), (0, o0)], 2, none, []⟩, 2⟩ }, [], [Qst.ln 30 ⟨⟨[(1, o1), (0, o0)], 2, none, []⟩, 2⟩ u1 (iN n), Qst.val (some (.bool (decide (Int.ofNat i < Int.ofNat n)))) (.bool true), Qst.idx 30 u1 (iN i) (.ptr 0 g), Qst.ld 22 ⟨⟨[(1, o1), (0, o0)], 2, none, []⟩, 2⟩ (.ptr 0 g) (iW v), Qst.idx 30 u2 (iN i) (.ptr 1 h), Qst.ld 22 ⟨⟨[(1, o1), (0, o0)], 2, none, []⟩, 2⟩ (.ptr 1 h) (iW v), Qst.val (some (.bool (v != v))) (.bool false), Qst.val (some (.int .i64 (IntKind.i64.wrap (Int.ofNat (i + 1))))) (iN (i + 1))]) := by kernel_rfl
theorem sn_end (n _ _ i _ _ _ _ _ _ _ _ : Nat) (_ _ _ _ : Int) (o0 o1 : AObj) (_ _ : List AV) (u1 u2 _ : AV) : runX Try.prog none_ 80 16 (.code (loopAt Try.prog 16 0) (T16 u1 u2 i) ⟨⟨[(1, o1), (0, o0)], 2, none, []⟩, 2⟩) [.val 16 4 2 (iN (n)), .val 16 4 3 (.bool false)] = some ({ e := .exit 0, ts := [u1, u2, jq, jq, jq, iN i, jq, jq, jq, jq, jq, jq, jq, jq, jq, jq, jq, jq, iN i, u1, iN n, .bool false, jq, jq, jq, jq, jq, jq, jq, jq, jq, jq, jq], s := ⟨⟨[(1, o1), (0, o0)], 2, none, []⟩, 2⟩ }, [], [Qst.ln 30 ⟨⟨[(1, o1), (0, o0)], 2, none, []⟩, 2⟩ u1 (iN n), Qst.val (some (.bool (decide (Int.ofNat i < Int.ofNat n)))) (.bool false)]) := by kernel_rfl
theorem sn_call_sl (n _ _ _ _ _ _ _ _ _ _ _ : Nat) (_ _ _ _ : Int) (o0 o1 : AObj) (_ _ : List AV) (_ u2 _ : AV) : runX Try.prog none_ 80 16 (.call 16 [.slice 0 0 n n, u2] ⟨⟨[(1, o1), (0, o0)], 2, none, []⟩, 2⟩) [.val 16 1 3 (iN (n)), .val 16 1 4 (.bool false), .val 16 1 10 (.bool false), .loop 16 (fun _ s => ⟨.exit 0, T16 (.slice 0 0 n n) u2 n, s⟩)] = some ({ e := .ret, ts := [.bool true], s := ⟨⟨[(1, o1), (0, o0)], 2, none, []⟩, 2⟩ }, [], [Qst.ln 30 ⟨⟨[(1, o1), (0, o0)], 2, none, []⟩, 2⟩ u2 (iN n), Qst.val (some (.bool (Int.ofNat n != Int.ofNat n))) (.bool false), Qst.val (some (.bool (decide (((n : Nat) : Int) > ((n : Nat) : Int))))) (.bool false), Qst.snd (Task.code (Code.loop (loopAt Try.prog 16 0)) [.slice 0 0 n n, u2, uD, uD, .bool false, iN 0, .slice 0 0 n n, iN n, u2, iN n, .bool false, .bool false, .slice 0 0 n n, iN n, .slice 0 0 n n, iN n, .bool false, .bool false, uD, uD, uD, uD, uD, uD, uD, uD, uD, uD, uD, uD, uD, uD, uD] ⟨⟨[(1, o1), (0, o0)], 2, none, []⟩, 2⟩) { e := .exit 0, ts := [.slice 0 0 n n, u2, jq, jq, jq, iN n, jq, jq, jq, jq, jq, jq, jq, jq, jq, jq, jq, jq, jq, jq, jq, jq, jq, jq, jq, jq, jq, jq, jq, jq, jq, jq, jq], s := ⟨⟨[(1, o1), (0, o0)], 2, none, []⟩, 2⟩ }]) := by kernel_rfl
theorem sn_call_nil (n _ _ _ _ _ _ _ _ _ _ _ : Nat) (_ _ _ _ : Int) (o0 o1 : AObj) (_ _ : List AV) (_ u2 _ : AV) : runX Try.prog none_ 80 16 (.call 16 [.nilSlice, u2] ⟨⟨[(1, o1), (0, o0)], 2, none, []⟩, 2⟩) [.val 16 1 3 (iN (n)), .val 16 1 4 (.bool false), .loop 16 (fun _ s => ⟨.exit 0, T16 (.nilSlice) u2 n, s⟩)] = some ({ e := .ret, ts := [.bool true], s := ⟨⟨[(1, o1), (0, o0)], 2, none, []⟩, 2⟩ }, [], [Qst.ln 30 ⟨⟨[(1, o1), (0, o0)], 2, none, []⟩, 2⟩ u2 (iN n), Qst.val (some (.bool (Int.ofNat 0 != Int.ofNat n))) (.bool false), Qst.snd (Task.code (Code.loop (loopAt Try.prog 16 0)) [.nilSlice, u2, uD, uD, .bool false, iN 0, .nilSlice, iN 0, u2, iN n, .bool false, .bool false, .nilSlice, iN 0, .nilSlice, iN 0, .bool false, .bool false, uD, uD, uD, uD, uD, uD, uD, uD, uD, uD, uD, uD, uD, uD, uD] ⟨⟨[(1, o1), (0, o0)], 2, none, []⟩, 2⟩) { e := .exit 0, ts := [.nilSlice, u2, jq, jq, jq, iN n, jq, jq, jq, jq, jq, jq, jq, jq, jq, jq, jq, jq, jq, jq, jq, jq, jq, jq, jq, jq, jq, jq, jq, jq, jq, jq, jq], s := ⟨⟨[(1, o1), (0, o0)], 2, none, []⟩, 2⟩ }]) := by kernel_rfl
theorem sp_go (n _ _ i _ _ _ _ _ _ _ _ : Nat) (_ _ _ _ : Int) (_ _ : AObj) (D D1 : List AV) (_ _ _ : AV) : runX Try.prog none_ 80 25 (.code (loopAt Try.prog 25 0) (T25 n i) ⟨⟨[(0, .cells false D)], 1, none, []⟩, 1⟩) [.val 25 1 3 (.bool true), .val 25 3 2 (.ptr 0 (i)), .eff 25 3 3 uD (fun s => s.set 0 (.cells false D1)), .val 25 2 1 (iN (i + 1))] = some ({ e := .normal, ts := [.slice 0 0 n n, jq, iN (i + 1), iN i, .slice 0 0 n n, iN n, .bool true, iN i, iN (i + 1), .slice 0 0 n n, iN i, .ptr 0 i], s := ⟨⟨[(0, .cells false D1)], 1, none, [0]⟩, 1⟩ }, [], [Qst.val (some (.bool (decide (Int.ofNat i < ((n : Nat) : Int))))) (.bool true), Qst.idx 30 (.slice 0 0 n n) (iN i) (.ptr 0 i), Qst.sto ⟨⟨[(0, .cells false D)], 1, none, []⟩, 1⟩ 22 (.ptr 0 i) (iW (Int.ofNat 777777)) (uD) ⟨⟨[(0, .cells false D1)], 1, none, [0]⟩, 1⟩, Qst.val (some (.int .i64 (IntKind.i64.wrap (Int.ofNat (i + 1))))) (iN (i + 1))]) := by kernel_rfl
theorem sp_end (n _ _ i _ _ _ _ _ _ _ _ : Nat) (_ _ _ _ : Int) (_ _ : AObj) (D _ : List AV) (_ _ _ : AV) : runX Try.prog none_ 80 25 (.code (loopAt Try.prog 25 0) (T25 n i) ⟨⟨[(0, .cells false D)], 1, none, []⟩, 1⟩) [.val 25 1 3 (.bool false)] = some ({ e := .exit 0, ts := [.slice 0 0 n n, jq, iN i, iN i, .slice 0 0 n n, iN n, .bool false, jq, jq, jq, jq, jq], s := ⟨⟨[(0, .cells false D)], 1, none, []⟩, 1⟩ }, [], [Qst.val (some (.bool (decide (Int.ofNat i < ((n : Nat) : Int))))) (.bool false)]) := by kernel_rfl
theorem sp_call (n _ _ _ _ _ _ _ _ _ _ _ : Nat) (_ _ _ _ : Int) (_ _ : AObj) (D D1 : List AV) (_ _ _ : AV) : runX Try.prog none_ 80 25 (.call 25 [.slice 0 0 n n] ⟨⟨[(0, .cells false D)], 1, none, []⟩, 1⟩) [.loop 25 (fun _ s => ⟨.exit 0, T25 n n, s.set 0 (.cells false D1)⟩)] = some ({ e := .ret, ts := [uD], s := ⟨⟨[(0, .cells false D1)], 1, none, [0]⟩, 1⟩ }, [], [Qst.snd (Task.code (Code.loop (loopAt Try.prog 25 0)) [.slice 0 0 n n, uD, iN 0, uD, uD, uD, uD, uD, uD, uD, uD, uD] ⟨⟨[(0, .cells false D)], 1, none, []⟩, 1⟩) { e := .exit 0, ts := [.slice 0 0 n n, jq, iN n, jq, jq, jq, jq, jq, jq, jq, jq, jq], s := ⟨⟨[(0, .cells false D1)], 1, none, [0]⟩, 1⟩ }]) := by kernel_rfl
end Go.Proofs.Ythooafgfpnedhaa.specsDo.pq
namespace Go.Proofs.Ythooafgfpnedhaa.specsDo.pq
open Go Go.Mini Go.Sort
/-! ### sameNums, spoil -/
/-- A list of numbers that can be read by u, from the object o of block b. -/
structure RdU (u : AV) (b : Nat) (o : AObj) (L : List Int) : Prop where
  len : ∀ s, lenA Try.prog s 30 u = some (.int .i64 (Int.ofNat L.length))
  at_ : ∀ i (h : i < L.length), ∃ g, indexAddrA Try.prog 30 u (.int .i64 (Int.ofNat i)) = some (.ptr b g) ∧ ∀ s : AS, s.get b = some o → loadA Try.prog s 22 (.ptr b g) = some (.int .u64 L[i])
  small : L.length < 1000000
  jk : uu = junkOf u ∧ junkable u = true
section
variable {u1 u2 : AV} {o0 o1 : AObj} {L : List Int} (R1 : RdU u1 0 o0 L) (R2 : RdU u2 1 o1 L)
include R1 R2
theorem sn_loop : ∀ (m i : Nat), L.length - i ≤ m → i ≤ L.length → SoundL Try.prog [] (.loop (loopAt Try.prog 16 0)) (T16 u1 u2 i) [(1, o1), (0, o0)] 2 2 (.exit 0) (T16 u1 u2 L.length) [(1, o1), (0, o0)] := by
  intro m
  have hsm := R1.small
  induction m with
  | zero =>
    intro i h hi
    obtain rfl : i = L.length := by omega
    refine SoundL.stop (SoundL.plain (runX_sound mixed none_sound (sn_end L.length 0 0 L.length 0 0 0 0 0 0 0 0 0 0 0 0 o0 o1 [] [] u1 u2 .nilFunc) ⟨R1.len _, bF (by simp), trivial⟩) ?_) (by simp)
    unfold T16
    repeat (first | exact rfl | refine ⟨_, _, rfl, ?_, ?_⟩ | exact .inr ⟨rfl, rfl⟩ | exact .inl ⟨rfl, rfl⟩ | exact .inl R1.jk | exact .inl R2.jk | exact see_same _)
  | succ m ih =>
    intro i h hi
    by_cases hl : i < L.length
    · obtain ⟨g, q1, q2⟩ := R1.at_ i hl
      obtain ⟨g', q3, q4⟩ := R2.at_ i hl
      refine SoundL.next (SoundL.plain (runX_sound mixed none_sound (sn_go L.length 0 0 i 0 g' g 0 0 0 0 0 0 0 0 L[i] o0 o1 [] [] u1 u2 .nilFunc) ⟨R1.len _, bT (by simp; omega), q1, q2 _ rfl, q3, q4 _ rfl, by simp [Qst.ok], wN _ (by first | rfl | (simp only [Int.ofNat_eq_natCast]; omega)) (by omega), trivial⟩) ?_) (ih (i + 1) (by omega) (by omega))
      unfold T16
      repeat (first | exact rfl | refine ⟨_, _, rfl, ?_, ?_⟩ | exact .inr ⟨rfl, rfl⟩ | exact .inl ⟨rfl, rfl⟩ | exact .inl R1.jk | exact .inl R2.jk | exact see_same _)
    · obtain rfl : i = L.length := by omega
      refine SoundL.stop (SoundL.plain (runX_sound mixed none_sound (sn_end L.length 0 0 L.length 0 0 0 0 0 0 0 0 0 0 0 0 o0 o1 [] [] u1 u2 .nilFunc) ⟨R1.len _, bF (by simp), trivial⟩) ?_) (by simp)
      unfold T16
      repeat (first | exact rfl | refine ⟨_, _, rfl, ?_, ?_⟩ | exact .inr ⟨rfl, rfl⟩ | exact .inl ⟨rfl, rfl⟩ | exact .inl R1.jk | exact .inl R2.jk | exact see_same _)
end
section
variable {u2 : AV} {o0 o1 : AObj} {L : List Int} (R2 : RdU u2 1 o1 L)
include R2
theorem sn_sl (R1 : RdU (.slice 0 0 L.length L.length) 0 o0 L) : Sound Try.prog (.call 16 [.slice 0 0 L.length L.length, u2] ⟨⟨[(1, o1), (0, o0)], 2, none, []⟩, 2⟩) ⟨.ret, [.bool true], ⟨⟨[(1, o1), (0, o0)], 2, none, []⟩, 2⟩⟩ := by
  have h := sn_loop R1 R2 _ 0 (Nat.le_refl _) (Nat.zero_le _) none none []
  refine runX_sound mixed none_sound (sn_call_sl L.length 0 0 0 0 0 0 0 0 0 0 0 0 0 0 0 o0 o1 [] [] .nilFunc u2 .nilFunc) ⟨R2.len _, by simp [Qst.ok], bF (by simp), Sound.enter h ?_, trivial⟩
  unfold T16
  repeat (first | exact rfl | refine ⟨_, _, rfl, ?_, ?_⟩ | exact .inr ⟨rfl, rfl⟩ | exact .inl ⟨rfl, rfl⟩ | exact .inl R2.jk | exact see_same _)
theorem sn_nil (R1 : RdU .nilSlice 0 o0 L) (h0 : L = []) : Sound Try.prog (.call 16 [.nilSlice, u2] ⟨⟨[(1, o1), (0, o0)], 2, none, []⟩, 2⟩) ⟨.ret, [.bool true], ⟨⟨[(1, o1), (0, o0)], 2, none, []⟩, 2⟩⟩ := by
  have h := sn_loop R1 R2 _ 0 (Nat.le_refl _) (Nat.zero_le _) none none []
  subst h0
  refine runX_sound mixed none_sound (sn_call_nil 0 0 0 0 0 0 0 0 0 0 0 0 0 0 0 0 o0 o1 [] [] .nilFunc u2 .nilFunc) ⟨R2.len _, by simp [Qst.ok], Sound.enter h ?_, trivial⟩
  unfold T16
  repeat (first | exact rfl | refine ⟨_, _, rfl, ?_, ?_⟩ | exact .inr ⟨rfl, rfl⟩ | exact .inl ⟨rfl, rfl⟩ | exact .inl R2.jk | exact see_same _)
end
/-- spoil writes one number in all places. -/
def spD (d : Array Int) : Nat → Nat → Array Int
  | 0, _ => d
  | m + 1, i => spD (d.setIfInBounds i 777777) m (i + 1)
theorem idxS {n k : Nat} (hk : k < n) : (Qst.idx 30 (.slice 0 0 n n) (.int .i64 (Int.ofNat k)) (.ptr 0 k)).ok Try.prog := by
  simp only [Qst.ok, indexAddrA, t30p, z22]
  rw [if_pos ⟨by simp, by simp; omega⟩]
  simp
section
variable {n : Nat} (hn : n < 1000000)
include hn
theorem sp_loop : ∀ (m i : Nat) (d : Array Int), i + m = n → n = d.size → SoundL Try.prog [0] (.loop (loopAt Try.prog 25 0)) (T25 n i) (bsA (ur d)) 1 1 (.exit 0) (T25 n n) (bsA (ur (spD d m i))) := by
  intro m
  induction m with
  | zero =>
    intro i d h hd
    obtain rfl : i = n := by omega
    refine SoundL.stop (SLA (runX_sound mixed none_sound (sp_end i 0 0 i 0 0 0 0 0 0 0 0 0 0 0 0 .dead .dead (ur d) [] .nilFunc .nilFunc .nilFunc) ⟨bF (by simp), trivial⟩) ?_ (ur_nm _ _)) (by simp)
    unfold T25
    repeat (first | exact rfl | refine ⟨_, _, rfl, ?_, ?_⟩ | exact .inr ⟨rfl, rfl⟩ | exact .inl ⟨rfl, rfl⟩ | exact see_same _)
  | succ m ih =>
    intro i d h hd
    have k := ih (i + 1) (d.setIfInBounds i 777777) (by omega) (by simp [hd])
    refine SoundL.next (SLA (runX_sound mixed none_sound (sp_go n 0 0 i 0 0 0 0 0 0 0 0 0 0 0 0 .dead .dead (ur d) (ur (d.setIfInBounds i 777777)) .nilFunc .nilFunc .nilFunc) ⟨bT (by simp; omega), idxS (by omega), stoP (by omega), wN _ (by first | rfl | (simp only [Int.ofNat_eq_natCast]; omega)) (by omega), trivial⟩) ?_ (ur_nm _ _)) k
    unfold T25
    repeat (first | exact rfl | refine ⟨_, _, rfl, ?_, ?_⟩ | exact .inr ⟨rfl, rfl⟩ | exact .inl ⟨rfl, rfl⟩ | exact see_same _)
theorem sp_all {d : Array Int} (hd : n = d.size) : CallP 25 [.slice 0 0 n n] d (spD d n 0) undefA := by
  intro esc esc' W
  have h := sp_loop hn n 0 d (by omega) hd none none []
  refine CSA (runX_sound mixed none_sound (sp_call n 0 0 0 0 0 0 0 0 0 0 0 0 0 0 0 .dead .dead (ur d) (ur (spD d n 0)) .nilFunc .nilFunc .nilFunc) ⟨Sound.enter h ?_, trivial⟩) rfl (ur_nm _ _) esc esc' W
  unfold T25
  repeat (first | exact rfl | refine ⟨_, _, rfl, ?_, ?_⟩ | exact .inr ⟨rfl, rfl⟩ | exact .inl ⟨rfl, rfl⟩ | exact see_same _)
end
end Go.Proofs.Ythooafgfpnedhaa.specsDo.pq
namespace Go.Proofs.Ythooafgfpnedhaa.specsDo.pq
open Go Go.Mini
def T10 (n i : Nat) : List AV := .ptr 4 0 :: uu :: .slice 9 0 n n :: .slice 10 0 n n :: uu :: uu :: uu :: uu :: uu :: uu :: uu :: uu :: uu :: uu :: uu :: uu :: uu :: uu :: .slice 9 0 n n :: .int .i64 (Int.ofNat (n)) :: .int .i64 (Int.ofNat (i)) :: List.replicate 16 uu
end Go.Proofs.Ythooafgfpnedhaa.specsDo.pq
namespace Go.Proofs.Ythooafgfpnedhaa.specsDo.pq
open Go Go.Mini
theorem mq_go (n i _ _ : Nat) (x y : Int) (M : AObj) (D D1 D2 : List AV) (mS _ q : AV) : runX Try.prog none_ 80 10 (.code (loopAt Try.prog 10 0) (T10 n i) ⟨⟨[(10, .cells false D1), (9, .cells false D), (8, .cells false [.map 5]), (4, .cells false [mS, .map 5, q]), (5, M)], 5, none, []⟩, 11⟩) [.val 10 6 0 (.bool true), .val 10 7 1 (.ptr 9 i), .val 10 7 2 (iW x), .val 10 8 7 (iW y), .val 10 8 8 (.ptr 10 i), .eff 10 8 9 uD (fun s => s.set 10 (.cells false D2)), .val 10 9 0 (iN (i + 1))] = some ({ e := .normal, ts := [.ptr 4 0, jq, .slice 9 0 n n, .slice 10 0 n n, iN i, iW x, jq, jq, jq, jq, jq, jq, jq, jq, jq, jq, jq, jq, .slice 9 0 n n, iN n, iN (i + 1), .bool true, iN i, .ptr 9 i, iW x, .slice 10 0 n n, iN i, .ptr 4 0, .ptr 4 0, .ptr 4 1, .map 5, iW x, iW y, .ptr 10 i, iN (i + 1), jq, jq], s := ⟨⟨[(10, .cells false D2), (9, .cells false D), (8, .cells false [.map 5]), (4, .cells false [mS, .map 5, q]), (5, M)], 5, none, [10]⟩, 11⟩ }, [], [Qst.val (some (.bool (decide (Int.ofNat i < Int.ofNat n)))) (.bool true), Qst.idx 30 (.slice 9 0 n n) (iN i) (.ptr 9 i), Qst.ld 22 ⟨⟨[(10, .cells false D1), (9, .cells false D), (8, .cells false [.map 5]), (4, .cells false [mS, .map 5, q]), (5, M)], 5, none, []⟩, 11⟩ (.ptr 9 i) (iW x), Qst.lk 34 ⟨⟨[(10, .cells false D1), (9, .cells false D), (8, .cells false [.map 5]), (4, .cells false [mS, .map 5, q]), (5, M)], 5, none, []⟩, 11⟩ (.map 5) (iW x) false (iW y), Qst.idx 30 (.slice 10 0 n n) (iN i) (.ptr 10 i), Qst.sto ⟨⟨[(10, .cells false D1), (9, .cells false D), (8, .cells false [.map 5]), (4, .cells false [mS, .map 5, q]), (5, M)], 5, none, []⟩, 11⟩ 22 (.ptr 10 i) (iW y) (uD) ⟨⟨[(10, .cells false D2), (9, .cells false D), (8, .cells false [.map 5]), (4, .cells false [mS, .map 5, q]), (5, M)], 5, none, [10]⟩, 11⟩, Qst.val (some (.int .i64 (IntKind.i64.wrap (Int.ofNat (i + 1))))) (iN (i + 1))]) := by kernel_rfl
theorem mq_end (n i _ _ : Nat) (_ _ : Int) (M : AObj) (D D1 _ : List AV) (mS _ q : AV) : runX Try.prog none_ 80 10 (.code (loopAt Try.prog 10 0) (T10 n i) ⟨⟨[(10, .cells false D1), (9, .cells false D), (8, .cells false [.map 5]), (4, .cells false [mS, .map 5, q]), (5, M)], 5, none, []⟩, 11⟩) [.val 10 6 0 (.bool false)] = some ({ e := .exit 0, ts := [.ptr 4 0, jq, .slice 9 0 n n, .slice 10 0 n n, jq, jq, jq, jq, jq, jq, jq, jq, jq, jq, jq, jq, jq, jq, .slice 9 0 n n, iN n, iN i, .bool false, jq, jq, jq, jq, jq, jq, jq, jq, jq, jq, jq, jq, jq, jq, jq], s := ⟨⟨[(10, .cells false D1), (9, .cells false D), (8, .cells false [.map 5]), (4, .cells false [mS, .map 5, q]), (5, M)], 5, none, []⟩, 11⟩ }, [], [Qst.val (some (.bool (decide (Int.ofNat i < Int.ofNat n)))) (.bool false)]) := by kernel_rfl
end Go.Proofs.Ythooafgfpnedhaa.specsDo.pq
namespace Go.Proofs.Ythooafgfpnedhaa.specsDo.pq
open Go Go.Mini Go.Sort
/-! ### Map's loop: a value for each key -/
def VL (K : List Int) (f : Int → Int) (i : Nat) : List Int := K.mapIdx fun j k => if j < i then f k else 0
theorem VL_len (K : List Int) (f : Int → Int) (i : Nat) : (VL K f i).length = K.length := by simp [VL]
theorem VL_set (K : List Int) (f : Int → Int) (i : Nat) (h : i < K.length) : (VL K f i).set i (f K[i]) = VL K f (i + 1) := by
  apply List.ext_getElem
  · simp [VL]
  · intro j h1 h2
    simp only [VL, List.getElem_set, List.getElem_mapIdx]
    by_cases e : i = j
    · subst e
      simp
    · rw [if_neg e]
      by_cases h3 : j < i
      · rw [if_pos h3, if_pos (by omega)]
      · rw [if_neg h3, if_neg (by omega)]
theorem VL_zero (K : List Int) (f : Int → Int) : VL K f 0 = List.replicate K.length 0 := by
  apply List.ext_getElem
  · simp [VL]
  · intro j h1 h2
    simp [VL]
theorem VL_all (K : List Int) (f : Int → Int) : VL K f K.length = K.map f := by
  apply List.ext_getElem
  · simp [VL]
  · intro j h1 h2
    simp only [VL, List.getElem_mapIdx, List.getElem_map]
    rw [if_pos (by simpa [VL] using h1)]
theorem stoB {d : List Int} {b k : Nat} {y : Int} {s : AS} (hk : k < d.length) (hs : s.get b = some (.cells false (d.map uI))) :
    (Qst.sto s 22 (.ptr b k) (.int .u64 y) (.tuple []) (s.set b (.cells false ((d.set k y).map uI)))).ok Try.prog := by
  refine ⟨?_, rfl⟩
  have h1 : Go.Mini.splice k [.int .u64 y] (d.map uI) = some ((d.set k y).map uI) := by rw [spliceP (by simpa using hk), List.map_set]; rfl
  simp only [storeA, z22]
  show (if Nat.beq [AV.int .u64 y].length 1 = true then writeA _ b k [.int .u64 y] else none) = _
  rw [if_pos (show Nat.beq [AV.int .u64 y].length 1 = true from rfl)]
  simp only [writeA, hs, h1]
  rfl
theorem idxSB {b n c k : Nat} (hk : k < n) : (Qst.idx 30 (.slice b 0 n c) (.int .i64 (Int.ofNat k)) (.ptr b k)).ok Try.prog := by
  simp only [Qst.ok, indexAddrA, t30p, z22]
  rw [if_pos ⟨by simp, by simp; omega⟩]
  simp
theorem ldB {L : List Int} {b k : Nat} {ro : Bool} {s : AS} (h : k < L.length) (hs : s.get b = some (.cells ro (L.map uI))) : (Qst.ld 22 s (.ptr b k) (.int .u64 L[k])).ok Try.prog :=
  ld_cell g22 hs (by simp [uI, h])
theorem uI_nms (p : Nat → Bool) (L : List Int) : namess p (L.map uI) = true := by
  have e : ur L.toArray = L.map uI := by simp [ur, uI]
  rw [← e]
  exact ur_nm p L.toArray
def bsM (K V : List Int) (M : AObj) (mS q : AV) : List (Nat × AObj) := [(10, .cells false (V.map uI)), (9, .cells false (K.map uI)), (8, .cells false [.map 5]), (4, .cells false [mS, .map 5, q]), (5, M)]
section
variable {K : List Int} {M : List (Int × Int)} {bn : List Nat} {ck : Nat} {mS q : AV} (hs : K.length < 1000000) (nS : mS.names (fun c => Nat.blt c 11) = true) (nq : q.names (fun c => Nat.blt c 11) = true)
include hs nS nq
theorem mq_loop : ∀ (m i : Nat), K.length - i = m → i ≤ K.length → SoundL Try.prog [10] (.loop (loopAt Try.prog 10 0)) (T10 K.length i) (bsM K (VL K (fun k => (getM M k).getD 0) i) (.map (mapE .u64 .u64 M) bn ck) mS q) 5 11 (.exit 0) (T10 K.length K.length) (bsM K (VL K (fun k => (getM M k).getD 0) K.length) (.map (mapE .u64 .u64 M) bn ck) mS q) := by
  intro m
  induction m with
  | zero =>
    intro i h hi
    obtain rfl : i = K.length := by omega
    refine SoundL.stop (SoundL.intro (runX_sound mixed none_sound (mq_end K.length K.length 0 0 0 0 (.map (mapE .u64 .u64 M) bn ck) (K.map uI) ((VL K (fun k => (getM M k).getD 0) K.length).map uI) [] mS .nilFunc q) ⟨bF (by simp), trivial⟩) ?_ ⟨_, _, rfl, rfl, .inl (by simp), _, _, rfl, rfl, .inr rfl, _, _, rfl, rfl, .inr rfl, _, _, rfl, rfl, .inr rfl, _, _, rfl, rfl, .inr rfl, rfl⟩ ⟨⟨uI_nms _ _, rfl⟩, ⟨uI_nms _ _, rfl⟩, ⟨rfl, rfl⟩, ⟨and2 nS (and2 rfl (and2 nq rfl)), rfl⟩, ⟨names_mapE _ _, rfl⟩, trivial⟩) (by simp)
    unfold T10
    repeat (first | exact rfl | refine ⟨_, _, rfl, ?_, ?_⟩ | exact .inr ⟨rfl, rfl⟩ | exact .inl ⟨rfl, rfl⟩ | exact see_same _)
  | succ m ih =>
    intro i h hi
    have hl : i < K.length := by omega
    have st := stoB (d := VL K (fun k => (getM M k).getD 0) i) (b := 10) (k := i) (y := (getM M K[i]).getD 0) (s := ⟨⟨[(10, .cells false ((VL K (fun k => (getM M k).getD 0) i).map uI)), (9, .cells false (K.map uI)), (8, .cells false [.map 5]), (4, .cells false [mS, .map 5, q]), (5, .map (mapE .u64 .u64 M) bn ck)], 5, none, []⟩, 11⟩) (by rw [VL_len]; exact hl) rfl
    rw [VL_set K (fun k => (getM M k).getD 0) i hl] at st
    refine SoundL.next (SoundL.intro (ts' := T10 K.length (i + 1)) (bs' := bsM K (VL K (fun k => (getM M k).getD 0) (i + 1)) (.map (mapE .u64 .u64 M) bn ck) mS q) (runX_sound mixed none_sound (mq_go K.length i 0 0 K[i] ((getM M K[i]).getD 0) (.map (mapE .u64 .u64 M) bn ck) (K.map uI) ((VL K (fun k => (getM M k).getD 0) i).map uI) ((VL K (fun k => (getM M k).getD 0) (i + 1)).map uI) mS .nilFunc q) ⟨bT (by simp; omega), idxSB hl, ldB hl rfl, by simp only [Qst.ok]; rw [lk_mapE (vk := .u64) t34 t22 specsDo.z22 rfl false]; rfl, idxSB hl, st, wN _ (by first | rfl | (simp only [Int.ofNat_eq_natCast]; omega)) (by omega), trivial⟩) ?_ ⟨_, _, rfl, rfl, .inl (by simp), _, _, rfl, rfl, .inr rfl, _, _, rfl, rfl, .inr rfl, _, _, rfl, rfl, .inr rfl, _, _, rfl, rfl, .inr rfl, rfl⟩ ⟨⟨uI_nms _ _, rfl⟩, ⟨uI_nms _ _, rfl⟩, ⟨rfl, rfl⟩, ⟨and2 nS (and2 rfl (and2 nq rfl)), rfl⟩, ⟨names_mapE _ _, rfl⟩, trivial⟩) (ih (i + 1) (by omega) (by omega))
    unfold T10
    repeat (first | exact rfl | refine ⟨_, _, rfl, ?_, ?_⟩ | exact .inr ⟨rfl, rfl⟩ | exact .inl ⟨rfl, rfl⟩ | exact see_same _)
end
end Go.Proofs.Ythooafgfpnedhaa.specsDo.pq
namespace Go.Proofs.Ythooafgfpnedhaa.specsDo.pq
open Go Go.Mini Go.Sort
def ts4 (n : Nat) : List AV := [.ptr 4 0, undefA, .slice 9 0 n n, .nilSlice, undefA, undefA, .ptr 4 0, .bool false, .ptr 4 0, .ptr 4 0, .ptr 4 1, .map 5, .func (.func 55) [] [.ptr 8 0], .osl 9 0 n 1, .slice 9 0 n n, .slice 9 0 n n, .int .i64 (Int.ofNat n)] ++ List.replicate 20 undefA
def ts5 (n : Nat) : List AV := [.ptr 4 0, undefA, .slice 9 0 n n, .slice 10 0 n n, undefA, undefA, .ptr 4 0, .bool false, .ptr 4 0, .ptr 4 0, .ptr 4 1, .map 5, .func (.func 55) [] [.ptr 8 0], .osl 9 0 n 1, .slice 9 0 n n, .slice 9 0 n n, .int .i64 (Int.ofNat n), .slice 10 0 n n, .slice 9 0 n n, .int .i64 (Int.ofNat n), .int .i64 (Int.ofNat 0)] ++ List.replicate 16 undefA
def b4 (D : List AV) (M : AObj) (mS q : AV) : List (Nat × AObj) := [(9, .cells false D), (8, .cells false [.map 5]), (4, .cells false [mS, .map 5, q]), (5, M)]
theorem mq_so (n : Nat) (M : AObj) (D D1 D2 : List AV) (mS q : AV) : runX Try.prog none_ 80 10 (.call 10 [.ptr 4 0] ⟨⟨[(4, .cells false [mS, .map 5, q]), (5, M)], 2, none, []⟩, 8⟩) [.call 10 3 5 (.osl 9 0 n 1) (fun s => (s.push oE).set s.nx (.cells false D)), .val 27 1 5 (.slice 9 0 n n), .eff 10 4 2 (.slice 10 0 n n) (fun s => s.push (.cells false D1)), .loop 10 (fun _ s => ⟨.exit 0, T10 n n, s.set 10 (.cells false D2)⟩)] =
    some (⟨.ret, [.tuple [.slice 9 0 n n, .slice 10 0 n n]], ⟨⟨(10, .cells false D2) :: b4 D M mS q, 5, none, []⟩, 11⟩⟩, [], [Qst.snd (.call 28 [.func (.func 55) [] [.ptr 8 0]] ⟨⟨[(8, .cells false [.map 5]), (4, .cells false [mS, .map 5, q]), (5, M)], 3, none, []⟩, 9⟩) ⟨.ret, [.osl 9 0 n 1], ⟨⟨b4 D M mS q, 4, none, [9]⟩, 10⟩⟩,
      Qst.sli 30 (.osl 9 0 n 1) none (some (.int .i64 (Int.ofNat n))) (some (.int .i64 (Int.ofNat n))) (.slice 9 0 n n),
      Qst.out (opA Try.prog (ts4 n) ⟨⟨b4 D M mS q, 4, none, [9]⟩, 10⟩ (.makeSlice 30 (.tmp 16) (.tmp 16))) (.slice 10 0 n n) ⟨⟨(10, .cells false D1) :: b4 D M mS q, 5, none, [9]⟩, 11⟩,
      Qst.snd (.code (.loop (loopAt Try.prog 10 0)) (ts5 n) ⟨⟨(10, .cells false D1) :: b4 D M mS q, 5, none, [9]⟩, 11⟩) ⟨.exit 0, T10 n n, ⟨⟨(10, .cells false D2) :: b4 D M mS q, 5, none, [10, 9]⟩, 11⟩⟩]) := by kernel_rfl
end Go.Proofs.Ythooafgfpnedhaa.specsDo.pq
namespace Go.Proofs.Ythooafgfpnedhaa.specsDo.pq
open Go Go.Mini
theorem st_no (_ _ _ _ : Nat) (_ _ : Int) (_ : AObj) (_ _ _ : List AV) (_ mT q : AV) : runX Try.prog none_ 80 11 (.call 11 [.ptr 4 0] ⟨⟨[(4, .cells false [.nilMap, mT, q])], 1, none, []⟩, 8⟩) [.call 11 3 5 .nilSlice id] = some ({ e := .ret, ts := [.nilSlice], s := ⟨⟨[(4, .cells false [.nilMap, mT, q])], 1, none, []⟩, 9⟩ }, [], [Qst.snd (Task.call 28 [.func (Fn.func 55) [] [.ptr 8 0]] ⟨⟨[(8, .cells false [.nilMap]), (4, .cells false [.nilMap, mT, q])], 2, none, []⟩, 9⟩) { e := .ret, ts := [.nilSlice], s := ⟨⟨[(8, .cells false [.nilMap]), (4, .cells false [.nilMap, mT, q])], 2, none, []⟩, 9⟩ }]) := by kernel_rfl
theorem st_ze (_ _ _ _ : Nat) (_ _ : Int) (M : AObj) (_ _ _ : List AV) (_ mT q : AV) : runX Try.prog none_ 80 11 (.call 11 [.ptr 4 0] ⟨⟨[(4, .cells false [.map 5, mT, q]), (5, M)], 2, none, []⟩, 8⟩) [.call 11 3 5 .nilSlice id] = some ({ e := .ret, ts := [.nilSlice], s := ⟨⟨[(4, .cells false [.map 5, mT, q]), (5, M)], 2, none, []⟩, 9⟩ }, [], [Qst.snd (Task.call 28 [.func (Fn.func 55) [] [.ptr 8 0]] ⟨⟨[(8, .cells false [.map 5]), (4, .cells false [.map 5, mT, q]), (5, M)], 3, none, []⟩, 9⟩) { e := .ret, ts := [.nilSlice], s := ⟨⟨[(8, .cells false [.map 5]), (4, .cells false [.map 5, mT, q]), (5, M)], 3, none, []⟩, 9⟩ }]) := by kernel_rfl
theorem st_so (n _ _ _ : Nat) (_ _ : Int) (M : AObj) (D _ _ : List AV) (_ mT q : AV) : runX Try.prog none_ 80 11 (.call 11 [.ptr 4 0] ⟨⟨[(4, .cells false [.map 5, mT, q]), (5, M)], 2, none, []⟩, 8⟩) [.call 11 3 5 (.osl 9 0 n 1) (fun s => (s.push oE).set s.nx (.cells false D)), .val 27 1 5 (.slice 9 0 n n)] = some ({ e := .ret, ts := [.slice 9 0 n n], s := ⟨⟨[(9, .cells false D), (8, .cells false [.map 5]), (4, .cells false [.map 5, mT, q]), (5, M)], 4, none, []⟩, 10⟩ }, [], [Qst.snd (Task.call 28 [.func (Fn.func 55) [] [.ptr 8 0]] ⟨⟨[(8, .cells false [.map 5]), (4, .cells false [.map 5, mT, q]), (5, M)], 3, none, []⟩, 9⟩) { e := .ret, ts := [.osl 9 0 n 1], s := ⟨⟨[(9, .cells false D), (8, .cells false [.map 5]), (4, .cells false [.map 5, mT, q]), (5, M)], 4, none, [9]⟩, 10⟩ }, Qst.sli 30 (.osl 9 0 n 1) none (some (iN n)) (some (iN n)) (.slice 9 0 n n)]) := by kernel_rfl
theorem qu_so (n _ k _ : Nat) (_ _ : Int) (M : AObj) (D _ _ : List AV) (mS mT _ : AV) : runX Try.prog none_ 80 12 (.call 12 [.ptr 4 0] ⟨⟨[(4, .cells false [mS, mT, .osl 5 k n 1]), (5, M)], 2, none, []⟩, 8⟩) [.eff 30 3 2 (.osl 9 0 n 1) (fun s => s.push (.cells false D)), .val 27 1 5 (.slice 9 0 n n)] = some ({ e := .ret, ts := [.slice 9 0 n n], s := ⟨⟨[(9, .cells false D), (8, .cells false []), (4, .cells false [mS, mT, .osl 5 k n 1]), (5, M)], 4, none, []⟩, 10⟩ }, [], [Qst.app ⟨⟨[(8, .cells false []), (4, .cells false [mS, mT, .osl 5 k n 1]), (5, M)], 3, none, []⟩, 9⟩ 30 30 (.slice 8 0 0 0) (.osl 5 k n 1) (.osl 9 0 n 1) ⟨⟨[(9, .cells false D), (8, .cells false []), (4, .cells false [mS, mT, .osl 5 k n 1]), (5, M)], 4, none, []⟩, 10⟩, Qst.sli 30 (.osl 9 0 n 1) none (some (iN n)) (some (iN n)) (.slice 9 0 n n)]) := by kernel_rfl
theorem mp_no (_ _ _ _ : Nat) (_ _ : Int) (_ : AObj) (_ _ _ : List AV) (mS _ q : AV) : runX Try.prog none_ 80 10 (.call 10 [.ptr 4 0] ⟨⟨[(4, .cells false [mS, .nilMap, q])], 1, none, []⟩, 8⟩) [.call 10 3 5 .nilSlice id] = some ({ e := .ret, ts := [.tuple [.nilSlice, .slice 9 0 0 0]], s := ⟨⟨[(9, .cells false []), (8, .cells false [.nilMap]), (4, .cells false [mS, .nilMap, q])], 3, none, []⟩, 10⟩ }, [], [Qst.snd (Task.call 28 [.func (Fn.func 55) [] [.ptr 8 0]] ⟨⟨[(8, .cells false [.nilMap]), (4, .cells false [mS, .nilMap, q])], 2, none, []⟩, 9⟩) { e := .ret, ts := [.nilSlice], s := ⟨⟨[(8, .cells false [.nilMap]), (4, .cells false [mS, .nilMap, q])], 2, none, []⟩, 9⟩ }]) := by kernel_rfl
theorem mp_ze (_ _ _ _ : Nat) (_ _ : Int) (M : AObj) (_ _ _ : List AV) (mS _ q : AV) : runX Try.prog none_ 80 10 (.call 10 [.ptr 4 0] ⟨⟨[(4, .cells false [mS, .map 5, q]), (5, M)], 2, none, []⟩, 8⟩) [.call 10 3 5 .nilSlice id] = some ({ e := .ret, ts := [.tuple [.nilSlice, .slice 9 0 0 0]], s := ⟨⟨[(9, .cells false []), (8, .cells false [.map 5]), (4, .cells false [mS, .map 5, q]), (5, M)], 4, none, []⟩, 10⟩ }, [], [Qst.snd (Task.call 28 [.func (Fn.func 55) [] [.ptr 8 0]] ⟨⟨[(8, .cells false [.map 5]), (4, .cells false [mS, .map 5, q]), (5, M)], 3, none, []⟩, 9⟩) { e := .ret, ts := [.nilSlice], s := ⟨⟨[(8, .cells false [.map 5]), (4, .cells false [mS, .map 5, q]), (5, M)], 3, none, []⟩, 9⟩ }]) := by kernel_rfl
end Go.Proofs.Ythooafgfpnedhaa.specsDo.pq
namespace Go.Proofs.Ythooafgfpnedhaa.specsDo
open Go Go.Mini Go.Sort
/-! ### Set -/
theorem rec_push2 {P : Program} {f : FuncId} {args vs : List AV} {e : AExit} {s : AS} {b bm : Nat} {X Y o : AObj} (h : Sound P (.call f args s) ⟨e, vs, ((s.set b X).set bm Y).push o⟩) (hb : s.get b = some X) (hm : s.get bm = some Y) : Sound P (.call f args s) ⟨e, vs, s.push o⟩ :=
  Sound.recast h (fun c => by rw [get_push, get_push, get_set_same (s := s.set b X) (by rw [get_set_same hb]; exact hm), get_set_same hb]; rfl) (by show s.nx :: s.h.bs.map (·.1) = s.nx :: (setB (setB s.h.bs b X) bm Y).map (·.1); rw [setB_keys, setB_keys]) rfl rfl ⟨[], rfl, fun c hc _ => by rw [get_push, if_neg (by omega)]⟩
theorem uI_nm (p : Nat → Bool) (L : List Int) : namess p (L.map uI) = true := by
  have e : pq.ur L.toArray = L.map uI := by simp [pq.ur, uI]
  rw [← e]
  exact pq.ur_nm p L.toArray
theorem uI_ren (π : Nat → Nat) (L : List Int) : rens π (L.map uI) = L.map uI := by
  have e : pq.ur L.toArray = L.map uI := by simp [pq.ur, uI]
  rw [← e]
  exact pq.ur_ren π L.toArray
theorem sli9 {n : Nat} : (Qst.sli 30 (.osl 9 0 n 1) none (some (.int .i64 (Int.ofNat n))) (some (.int .i64 (Int.ofNat n))) (.slice 9 0 n n)).ok Try.prog := by
  simp only [Qst.ok, sliceA, pq.t30p, pq.z22, boundA]
  simp
theorem set_some {s : AS} {b bm : Nat} {t q : AV} {M : List (Int × Int)} {bn : List Nat} {ck : Nat} (hk : MapOk M bn ck) (hb : s.get b = some (.cells false [.map bm, t, q])) (hm : s.get bm = some (.map (mapE .u64 .u64 M) bn ck)) (ht : Mp t) (hq : Ql q) (hne : b ≠ bm) (hM : M ≠ []) (h200 : M.length ≤ 200) :
    Sound Try.prog (.call 11 [.ptr b 0] s) ⟨.ret, [.slice s.nx 0 M.length M.length], s.push (.cells false ((keysOfM M).map uI))⟩ := by
  obtain ⟨t0, c6, nt, rt⟩ := ht.small 6 (by decide)
  obtain ⟨q0, c7, nq, rq⟩ := hq.small 7 (by decide)
  have inj : ∀ b' ∈ [4, 5], ∀ c ∈ [4, 5], p4 b bm c6 c7 b' = p4 b bm c6 c7 c → b' = c := fun b' hb' c hc he => by
    simp only [List.mem_cons, List.not_mem_nil, or_false] at hb' hc
    rcases hb' with rfl | rfl <;> rcases hc with rfl | rfl
    · rfl
    · exact absurd he hne
    · exact absurd he.symm hne
    · rfl
  have hs := fun st hx hm' => sorted_some (s := st) (bx := 8) (bm := 5) (ro := false) hk hx hm' hM (pq.sortsU h200)
  have h := Sound.put (bs0 := [(4, .cells false [.map 5, t0, q0]), (5, .map (mapE .u64 .u64 M) bn ck)]) (runX_sound mixed none_sound (pq.st_so M.length 0 0 0 0 0 (.map (mapE .u64 .u64 M) bn ck) ((keysOfM M).map uI) [] [] .nilMap t0 q0) ⟨hs _ rfl rfl, sli9, trivial⟩) noG (p4 b bm c6 c7) [9] s
    ⟨⟨show 4 < 8 by decide, rfl, and2 nt (and2 nq rfl), rfl, by show s.get b = some (.cells false [.map bm, t0.ren _, q0.ren _]); rw [rt _ rfl, rq _ rfl]; exact hb, .inl rfl, and2 (pN_8 nt) (and2 (pN_8 nq) rfl)⟩,
      ⟨show 5 < 8 by decide, rfl, names_mapE _ _, rfl, by show s.get bm = some (.map (renE _ (mapE .u64 .u64 M)) bn ck); rw [ren_mapE]; exact hm, .inl rfl, names_mapE _ _⟩, trivial⟩
    inj (show [4, 5].Nodup by decide) (show [9].Nodup by decide) (fun b' hb' => by
      simp only [List.mem_singleton] at hb'
      subst hb'
      exact ⟨by decide, rfl, uI_nm _ _⟩) rfl rfl
  have e4 : (AObj.cells false [.map 5, t0, q0]).ren (pR 8 [9] (p4 b bm c6 c7) s.nx) = .cells false [.map bm, t, q] := by
    show AObj.cells false [.map bm, t0.ren _, q0.ren _] = _
    rw [rt _ rfl, rq _ rfl]
  simp only [List.map_cons, List.map_nil, setL, pushL, objAt, AS.get, getB, Nat.beq] at h
  simp only [Bool.false_eq_true, if_false, if_true, Option.getD_some] at h
  rw [e4] at h
  simp only [AObj.ren, uI_ren, ren_mapE] at h
  exact rec_push2 h hb hm
end Go.Proofs.Ythooafgfpnedhaa.specsDo
namespace Go.Proofs.Ythooafgfpnedhaa.specsDo
open Go Go.Mini Go.Sort
/-! ### Set of a state without keys -/
section
variable {s : AS} {b bm : Nat} {t q : AV} (ht : Mp t) (hq : Ql q)
include ht hq
theorem set_zero {bn : List Nat} {ck : Nat} (hk : MapOk [] bn ck) (hb : s.get b = some (.cells false [.map bm, t, q])) (hm : s.get bm = some (.map (mapE .u64 .u64 []) bn ck)) (hne : b ≠ bm) :
    Sound Try.prog (.call 11 [.ptr b 0] s) ⟨.ret, [.nilSlice], s⟩ := by
  obtain ⟨t0, c6, nt, rt⟩ := ht.small 6 (by decide)
  obtain ⟨q0, c7, nq, rq⟩ := hq.small 7 (by decide)
  have inj : ∀ b' ∈ [4, 5], ∀ c ∈ [4, 5], p4 b bm c6 c7 b' = p4 b bm c6 c7 c → b' = c := fun b' hb' c hc he => by
    simp only [List.mem_cons, List.not_mem_nil, or_false] at hb' hc
    rcases hb' with rfl | rfl <;> rcases hc with rfl | rfl
    · rfl
    · exact absurd he hne
    · exact absurd he.symm hne
    · rfl
  have hs := fun st hx hm' => sorted_zero (s := st) (bx := 8) (bm := 5) (ro := false) hk hx hm'
  have h := Sound.put (bs0 := [(4, .cells false [.map 5, t0, q0]), (5, .map (mapE .u64 .u64 []) bn ck)]) (runX_sound mixed none_sound (pq.st_ze 0 0 0 0 0 0 (.map (mapE .u64 .u64 []) bn ck) [] [] [] .nilMap t0 q0) ⟨hs _ rfl rfl, trivial⟩) noG (p4 b bm c6 c7) [] s
    ⟨⟨show 4 < 8 by decide, rfl, and2 nt (and2 nq rfl), rfl, by show s.get b = some (.cells false [.map bm, t0.ren _, q0.ren _]); rw [rt _ rfl, rq _ rfl]; exact hb, .inl rfl, and2 (pN_8 nt) (and2 (pN_8 nq) rfl)⟩,
      ⟨show 5 < 8 by decide, rfl, names_mapE _ _, rfl, hm, .inl rfl, names_mapE _ _⟩, trivial⟩
    inj (show [4, 5].Nodup by decide) List.nodup_nil (fun b' hb' => by cases hb') rfl rfl
  have e4 : (AObj.cells false [.map 5, t0, q0]).ren (pR 8 [] (p4 b bm c6 c7) s.nx) = .cells false [.map bm, t, q] := by
    show AObj.cells false [.map bm, t0.ren _, q0.ren _] = _
    rw [rt _ rfl, rq _ rfl]
  simp only [List.map_cons, List.map_nil, setL, pushL, objAt, AS.get, getB, Nat.beq] at h
  simp only [Bool.false_eq_true, if_false, if_true, Option.getD_some] at h
  rw [e4] at h
  simp only [AObj.ren, ren_mapE] at h
  exact rec_same2 h hb hm
theorem set_none (hb : s.get b = some (.cells false [.nilMap, t, q])) : Sound Try.prog (.call 11 [.ptr b 0] s) ⟨.ret, [.nilSlice], s⟩ := by
  obtain ⟨t0, c6, nt, rt⟩ := ht.small 6 (by decide)
  obtain ⟨q0, c7, nq, rq⟩ := hq.small 7 (by decide)
  have h := Sound.put (bs0 := [(4, .cells false [.nilMap, t0, q0])]) (runX_sound mixed none_sound (pq.st_no 0 0 0 0 0 0 .dead [] [] [] .nilMap t0 q0) ⟨sorted_nil (ro := false) rfl, trivial⟩) noG (p4 b 0 c6 c7) [] s
    ⟨⟨show 4 < 8 by decide, rfl, and2 nt (and2 nq rfl), rfl, by show s.get b = some (.cells false [.nilMap, t0.ren _, q0.ren _]); rw [rt _ rfl, rq _ rfl]; exact hb, .inl rfl, and2 (pN_8 nt) (and2 (pN_8 nq) rfl)⟩, trivial⟩
    (fun b hb c hc _ => by
      simp only [List.map_cons, List.map_nil, List.mem_cons, List.not_mem_nil, or_false] at hb hc
      rw [hb, hc]) (show [4].Nodup by decide) List.nodup_nil (fun b' hb' => by cases hb') rfl rfl
  have e4 : (AObj.cells false [.nilMap, t0, q0]).ren (pR 8 [] (p4 b 0 c6 c7) s.nx) = .cells false [.nilMap, t, q] := by
    show AObj.cells false [.nilMap, t0.ren _, q0.ren _] = _
    rw [rt _ rfl, rq _ rfl]
  simp only [List.map_cons, List.map_nil, setL, pushL, objAt, AS.get, getB, Nat.beq, Option.getD_some, if_true] at h
  rw [e4] at h
  exact rec_same1 h hb
end
end Go.Proofs.Ythooafgfpnedhaa.specsDo
namespace Go.Proofs.Ythooafgfpnedhaa.specsDo
open Go Go.Mini Go.Sort
/-! ### Map of a state without keys -/
theorem rec_push1 {P : Program} {f : FuncId} {args vs : List AV} {e : AExit} {s : AS} {b : Nat} {X o : AObj} (h : Sound P (.call f args s) ⟨e, vs, (s.set b X).push o⟩) (hb : s.get b = some X) : Sound P (.call f args s) ⟨e, vs, s.push o⟩ :=
  Sound.recast h (fun c => by rw [get_push, get_push, get_set_same hb]; rfl) (by show s.nx :: s.h.bs.map (·.1) = s.nx :: (setB s.h.bs b X).map (·.1); rw [setB_keys]) rfl rfl ⟨[], rfl, fun c hc _ => by rw [get_push, if_neg (by omega)]⟩
section
variable {s : AS} {b bm : Nat} {t q : AV} (ht : Mp t) (hq : Ql q)
include ht hq
theorem map_zero {bn : List Nat} {ck : Nat} (hk : MapOk [] bn ck) (hb : s.get b = some (.cells false [t, .map bm, q])) (hm : s.get bm = some (.map (mapE .u64 .u64 []) bn ck)) (hne : b ≠ bm) :
    Sound Try.prog (.call 10 [.ptr b 0] s) ⟨.ret, [.tuple [.nilSlice, .slice s.nx 0 0 0]], s.push oE⟩ := by
  obtain ⟨t0, c6, nt, rt⟩ := ht.small 6 (by decide)
  obtain ⟨q0, c7, nq, rq⟩ := hq.small 7 (by decide)
  have inj : ∀ b' ∈ [4, 5], ∀ c ∈ [4, 5], p4 b bm c6 c7 b' = p4 b bm c6 c7 c → b' = c := fun b' hb' c hc he => by
    simp only [List.mem_cons, List.not_mem_nil, or_false] at hb' hc
    rcases hb' with rfl | rfl <;> rcases hc with rfl | rfl
    · rfl
    · exact absurd he hne
    · exact absurd he.symm hne
    · rfl
  have hs := fun st hx hm' => sorted_zero (s := st) (bx := 8) (bm := 5) (ro := false) hk hx hm'
  have h := Sound.put (bs0 := [(4, .cells false [t0, .map 5, q0]), (5, .map (mapE .u64 .u64 []) bn ck)]) (runX_sound mixed none_sound (pq.mp_ze 0 0 0 0 0 0 (.map (mapE .u64 .u64 []) bn ck) [] [] [] t0 .nilMap q0) ⟨hs _ rfl rfl, trivial⟩) noG (p4 b bm c6 c7) [9] s
    ⟨⟨show 4 < 8 by decide, rfl, and2 nt (and2 rfl (and2 nq rfl)), rfl, by show s.get b = some (.cells false [t0.ren _, .map bm, q0.ren _]); rw [rt _ rfl, rq _ rfl]; exact hb, .inl rfl, and2 (pN_8 nt) (and2 rfl (and2 (pN_8 nq) rfl))⟩,
      ⟨show 5 < 8 by decide, rfl, names_mapE _ _, rfl, hm, .inl rfl, names_mapE _ _⟩, trivial⟩
    inj (show [4, 5].Nodup by decide) (show [9].Nodup by decide) (fun b' hb' => by
      simp only [List.mem_singleton] at hb'
      subst hb'
      exact ⟨by decide, rfl, rfl⟩) rfl rfl
  have e4 : (AObj.cells false [t0, .map 5, q0]).ren (pR 8 [9] (p4 b bm c6 c7) s.nx) = .cells false [t, .map bm, q] := by
    show AObj.cells false [t0.ren _, .map bm, q0.ren _] = _
    rw [rt _ rfl, rq _ rfl]
  simp only [List.map_cons, List.map_nil, setL, pushL, objAt, AS.get, getB, Nat.beq] at h
  simp only [Bool.false_eq_true, if_false, if_true, Option.getD_some] at h
  rw [e4] at h
  simp only [AObj.ren, ren_mapE] at h
  exact rec_push2 h hb hm
theorem map_none (hb : s.get b = some (.cells false [t, .nilMap, q])) : Sound Try.prog (.call 10 [.ptr b 0] s) ⟨.ret, [.tuple [.nilSlice, .slice s.nx 0 0 0]], s.push oE⟩ := by
  obtain ⟨t0, c6, nt, rt⟩ := ht.small 6 (by decide)
  obtain ⟨q0, c7, nq, rq⟩ := hq.small 7 (by decide)
  have h := Sound.put (bs0 := [(4, .cells false [t0, .nilMap, q0])]) (runX_sound mixed none_sound (pq.mp_no 0 0 0 0 0 0 .dead [] [] [] t0 .nilMap q0) ⟨sorted_nil (ro := false) rfl, trivial⟩) noG (p4 b 0 c6 c7) [9] s
    ⟨⟨show 4 < 8 by decide, rfl, and2 nt (and2 rfl (and2 nq rfl)), rfl, by show s.get b = some (.cells false [t0.ren _, .nilMap, q0.ren _]); rw [rt _ rfl, rq _ rfl]; exact hb, .inl rfl, and2 (pN_8 nt) (and2 rfl (and2 (pN_8 nq) rfl))⟩, trivial⟩
    (fun b hb c hc _ => by
      simp only [List.map_cons, List.map_nil, List.mem_cons, List.not_mem_nil, or_false] at hb hc
      rw [hb, hc]) (show [4].Nodup by decide) (show [9].Nodup by decide) (fun b' hb' => by
      simp only [List.mem_singleton] at hb'
      subst hb'
      exact ⟨by decide, rfl, rfl⟩) rfl rfl
  have e4 : (AObj.cells false [t0, .nilMap, q0]).ren (pR 8 [9] (p4 b 0 c6 c7) s.nx) = .cells false [t, .nilMap, q] := by
    show AObj.cells false [t0.ren _, .nilMap, q0.ren _] = _
    rw [rt _ rfl, rq _ rfl]
  simp only [List.map_cons, List.map_nil, setL, pushL, objAt, AS.get, getB, Nat.beq] at h
  simp only [Bool.false_eq_true, if_false, if_true, Option.getD_some] at h
  rw [e4] at h
  exact rec_push1 h hb
end
end Go.Proofs.Ythooafgfpnedhaa.specsDo
namespace Go.Proofs.Ythooafgfpnedhaa.specsDo
open Go Go.Mini Go.Sort
/-! ### Map of a state with keys -/
theorem rep_cells : ∀ n, repeatL n [AV.int .u64 0] = (List.replicate n (0 : Int)).map uI
  | 0 => rfl
  | n + 1 => by
    show AV.int .u64 0 :: repeatL n [AV.int .u64 0] = _
    rw [rep_cells n]
    rfl
theorem by22 : bytesA Try.prog 22 = some 8 := by kernel_rfl
theorem zr22 : zeroA Try.prog 22 = some (.int .u64 0) := by kernel_rfl
theorem mks {n : Nat} (hn : n ≤ 1000000) (s : AS) : (Qst.out (opA Try.prog (pq.ts4 n) s (.makeSlice 30 (.tmp 16) (.tmp 16))) (.slice s.nx 0 n n) (s.push (.cells false ((List.replicate n (0 : Int)).map uI)))).ok Try.prog := by
  have e1 : evA Try.prog (pq.ts4 n) (.tmp 16) = some (.int .i64 (Int.ofNat n)) := rfl
  have h1 : decide ((0 : Int) ≤ Int.ofNat n) = true := by simp
  have h2 : decide (Int.ofNat n ≤ Int.ofNat n) = true := by simp
  have h3 : decide (Int.ofNat n ≤ 16777216) = true := by simp only [Int.ofNat_eq_natCast, decide_eq_true_eq]; omega
  have h4 : Nat.beq (AV.cells (.int .u64 0)).length 1 = true := rfl
  have e2 : allocA Try.prog (pq.ts4 n) s.nx (.makeSlice 30 (.tmp 16) (.tmp 16)) = some (.slice s.nx 0 n n, .cells false ((List.replicate n (0 : Int)).map uI)) := by
    simp only [allocA, t30, e1, s22, by22, zr22, h1, h2, h3, h4, Bool.and_true, Bool.and_self]
    rw [if_pos (show (true && Nat.ble 8 4096 && !Nat.beq 1 0) = true from rfl)]
    show some (AV.slice s.nx 0 n n, AObj.cells false (repeatL n [AV.int .u64 0])) = _
    rw [rep_cells]
  show opA Try.prog _ _ _ = _
  simp only [opA, kindOf, e2]
def valsOfM (M : List (Int × Int)) : List Int := (keysOfM M).map fun k => (getM M k).getD 0
theorem keysOfM_len (M : List (Int × Int)) : (keysOfM M).length = M.length := by simp [keysOfM]
theorem map_some {s : AS} {b bm : Nat} {t q : AV} {M : List (Int × Int)} {bn : List Nat} {ck : Nat} (hk : MapOk M bn ck) (hb : s.get b = some (.cells false [t, .map bm, q])) (hm : s.get bm = some (.map (mapE .u64 .u64 M) bn ck)) (ht : Mp t) (hq : Ql q) (hne : b ≠ bm) (hM : M ≠ []) (h200 : M.length ≤ 200) :
    Sound Try.prog (.call 10 [.ptr b 0] s) ⟨.ret, [.tuple [.slice s.nx 0 M.length M.length, .slice (s.nx + 1) 0 M.length M.length]], (s.push (.cells false ((keysOfM M).map uI))).push (.cells false ((valsOfM M).map uI))⟩ := by
  obtain ⟨t0, c6, nt, rt⟩ := ht.small 6 (by decide)
  obtain ⟨q0, c7, nq, rq⟩ := hq.small 7 (by decide)
  have inj : ∀ b' ∈ [4, 5], ∀ c ∈ [4, 5], p4 b bm c6 c7 b' = p4 b bm c6 c7 c → b' = c := fun b' hb' c hc he => by
    simp only [List.mem_cons, List.not_mem_nil, or_false] at hb' hc
    rcases hb' with rfl | rfl <;> rcases hc with rfl | rfl
    · rfl
    · exact absurd he hne
    · exact absurd he.symm hne
    · rfl
  have hs := fun st hx hm' => sorted_some (s := st) (bx := 8) (bm := 5) (ro := false) hk hx hm' hM (pq.sortsU h200)
  have lp := pq.mq_loop (K := keysOfM M) (M := M) (bn := bn) (ck := ck) (mS := t0) (q := q0) (by rw [keysOfM_len]; omega) (names_sub (fun b h => by simp at h ⊢; omega) nt) (names_sub (fun b h => by simp at h ⊢; omega) nq) _ 0 rfl (Nat.zero_le _) none none [9]
  rw [pq.VL_zero, pq.VL_all, keysOfM_len] at lp
  have h := Sound.put (bs0 := [(4, .cells false [t0, .map 5, q0]), (5, .map (mapE .u64 .u64 M) bn ck)]) (runX_sound mixed none_sound (pq.mq_so M.length (.map (mapE .u64 .u64 M) bn ck) ((keysOfM M).map uI) ((List.replicate M.length (0 : Int)).map uI) ((valsOfM M).map uI) t0 q0) ⟨hs _ rfl rfl, sli9, mks (by omega) _, Sound.enter lp (by
      unfold pq.T10 pq.ts5
      repeat (first | exact rfl | refine ⟨_, _, rfl, ?_, ?_⟩ | exact .inr ⟨rfl, rfl⟩ | exact .inl ⟨rfl, rfl⟩ | exact see_same _)), trivial⟩) noG (p4 b bm c6 c7) [9, 10] s
    ⟨⟨show 4 < 8 by decide, rfl, and2 nt (and2 rfl (and2 nq rfl)), rfl, by show s.get b = some (.cells false [t0.ren _, .map bm, q0.ren _]); rw [rt _ rfl, rq _ rfl]; exact hb, .inl rfl, and2 (pN_8 nt) (and2 rfl (and2 (pN_8 nq) rfl))⟩,
      ⟨show 5 < 8 by decide, rfl, names_mapE _ _, rfl, by show s.get bm = some (.map (renE _ (mapE .u64 .u64 M)) bn ck); rw [ren_mapE]; exact hm, .inl rfl, names_mapE _ _⟩, trivial⟩
    inj (show [4, 5].Nodup by decide) (show [9, 10].Nodup by decide) (fun b' hb' => by
      simp only [List.mem_cons, List.not_mem_nil, or_false] at hb'
      rcases hb' with rfl | rfl
      · exact ⟨by decide, rfl, uI_nm _ _⟩
      · exact ⟨by decide, rfl, uI_nm _ _⟩) rfl rfl
  have e4 : (AObj.cells false [t0, .map 5, q0]).ren (pR 8 [9, 10] (p4 b bm c6 c7) s.nx) = .cells false [t, .map bm, q] := by
    show AObj.cells false [t0.ren _, .map bm, q0.ren _] = _
    rw [rt _ rfl, rq _ rfl]
  simp only [List.map_cons, List.map_nil, setL, pushL, objAt, AS.get, getB, Nat.beq, pq.b4] at h
  simp only [Bool.false_eq_true, if_false, if_true, Option.getD_some] at h
  rw [e4] at h
  simp only [AObj.ren, uI_ren, ren_mapE] at h
  refine Sound.recast h (fun c => ?_) ?_ rfl rfl ⟨[], rfl, fun c hc _ => ?_⟩
  · show _ = (((( s.set b _).set bm _).push _).push _).get c
    rw [get_push, get_push, get_push, get_push, get_set_same (s := s.set b _) (by rw [get_set_same hb]; exact hm), get_set_same hb]
    rfl
  · show (s.nx + 1) :: s.nx :: s.h.bs.map (·.1) = (s.nx + 1) :: s.nx :: (setB (setB s.h.bs b _) bm _).map (·.1)
    rw [setB_keys, setB_keys]
  · rw [get_push, if_neg (by show ¬ s.nx + 1 = c; omega), get_push, if_neg (by omega)]
end Go.Proofs.Ythooafgfpnedhaa.specsDo
namespace Go.Proofs.Ythooafgfpnedhaa.specsDo.sd
open Go Go.Mini
/-! ### keys: the keys and the values of a row of pairs -/
theorem eachX_mono {f g : Nat → AObj → Prop} (h : ∀ b o, f b o → g b o) : ∀ {bs : List (Nat × AObj)}, eachX f bs → eachX g bs
  | [], _ => trivial
  | _ :: _, k => ⟨h _ _ k.1, eachX_mono h k.2⟩
theorem freeU (L : List Int) : Free (.cells false (L.map uI)) := ⟨rfl, uI_nm _ L⟩
theorem app_u {s : AS} {b b2 : Nat} {ro : Bool} {A : List Int} {z : Int} (hb : s.get b = some (.cells false (A.map uI))) (h2 : s.get b2 = some (.cells ro [.int .u64 z])) (hk : A.length < 16777216) :
    appendA Try.prog s 30 30 (.osl b 0 A.length 1) (.slice b2 0 1 1) = some (.osl s.nx 0 (A.length + 1) 1, (s.set b .dead).push (.cells false ((A ++ [z]).map uI))) := by
  have := app_osl (P := Try.prog) (t := 30) (t2 := 30) (n := 1) (c2 := 1) (k := A.length) r30 hb (by simp) (by simp [uI, AV.one]) h2 rfl rfl hk
  rw [this]
  simp [uI]
def kyC (K V : List Int) : List (Nat × AObj) := [(2, .cells false (V.map uI)), (1, .cells false (K.map uI))]
theorem rens_T15 (n : Nat) (a b : AV) (i : Nat) {π : Nat → Nat} (h0 : π 0 = 0) : rens π (T15 n a b i) = T15 n (a.ren π) (b.ren π) i := by
  show [.osl (π 0) 0 n 2, uu, uu, uu, a.ren π, b.ren π, .int .i64 (Int.ofNat i)] ++ rens π (List.replicate 24 uu) = _
  rw [h0, rensW]
  rfl
theorem names_T15 {p : Nat → Bool} {a b : AV} (h0 : p 0 = true) (ha : a.names p = true) (hb : b.names p = true) (n i : Nat) : namess p (T15 n a b i) = true := by
  unfold T15
  simp only [namess, List.replicate, h0, ha, hb, AV.names, namess, Bool.and_self]
section
variable {l : List Pr}
theorem canY {C0 : AS} {foot0 : List Nat} {T ts1 : List AV} {cd : Code} {e : AExit} {n i : Nat} {bs1 : List (Nat × AObj)} {len1 nx1 m1 m2 : Nat} {esc1 : Option Nat} {wr1 : List Nat} {K V : List Int}
    (hr : Sound Try.prog (.code cd T C0) ⟨e, ts1, ⟨⟨bs1, len1, esc1, wr1⟩, nx1⟩⟩) (h1 : m1 ≠ 0) (h2 : m2 ≠ 0) (h12 : m1 ≠ m2) (g0 : getB bs1 0 = some (.cells true (pr l))) (g1 : getB bs1 m1 = some (.cells false (K.map uI))) (g2 : getB bs1 m2 = some (.cells false (V.map uI)))
    (hcov : eachX (fun b o => o = .dead ∨ Free o ∨ b = 0) bs1) (hkeys : (bs1.all fun y => Nat.blt y.1 nx1) = true) (hnx : C0.nx ≤ nx1) (hst : ∀ b, b < C0.nx → b ∉ foot0 → getB bs1 b = C0.get b)
    (hts : seesT (fun b => b) (fun _ => true) (T15 n (.osl m1 0 K.length 1) (.osl m2 0 V.length 1) i) ts1) :
    Go.Mini.Good Try.prog [(0, pr l)] C0 foot0 T cd e (T15 n (.osl 1 0 K.length 1) (.osl 2 0 V.length 1) i) (canS (kyC K V) (pr l) 3 3) [2, 1] := by
  refine Good.can (bsC := kyC K V) (nxC := 3) hr noG (fun b => if b = 1 then m1 else if b = 2 then m2 else b) rfl (pr_names _ _) ⟨⟨show 0 < 2 by decide, show 2 < 3 by decide, rfl, rfl, uI_nm _ _, by rw [(freeU V).ren]; exact g2⟩, ⟨show 0 < 1 by decide, show 1 < 3 by decide, rfl, rfl, uI_nm _ _, by rw [(freeU K).ren]; exact g1⟩, trivial⟩ (show [2, 1].Nodup by decide) (fun b hb c hc he => ?_) (fun c hc => ?_) g0 (eachX_mono (fun b o h => ?_) hcov) hkeys hnx (by decide) (fun c hc h => .inl ?_) hst ?_ (names_T15 rfl rfl rfl _ _)
  · have hb : b = 2 ∨ b = 1 := by simpa [kyC] using hb
    have hc : c = 2 ∨ c = 1 := by simpa [kyC] using hc
    rcases hb with rfl | rfl <;> rcases hc with rfl | rfl
    · rfl
    · exact absurd he.symm h12
    · exact absurd he h12
    · rfl
  · have hc : c = 2 ∨ c = 1 := by simpa [kyC] using hc
    rcases hc with rfl | rfl
    · exact h2
    · exact h1
  · rcases h with h | h | h
    · exact .inl h
    · exact .inr (.inl h)
    · exact .inr (.inr ⟨0, .inl rfl, h.symm⟩)
  · show c ∈ [2, 1]
    simp
    omega
  · rw [rens_T15 _ _ _ _ rfl]
    exact hts
theorem take1 {i : Nat} (hi : i < l.length) (f : Pr → Int) : (l.take (i + 1)).map f = (l.take i).map f ++ [f l[i]] := by
  rw [List.take_add_one, List.getElem?_eq_getElem hi, List.map_append]
  rfl
theorem y_first (hl : 0 < l.length) :
    Go.Mini.Good Try.prog [(0, pr l)] (canS [] (pr l) 1 1) [] (T15 l.length .nilSlice .nilSlice 0) (loopAt Try.prog 15 0) .normal (T15 l.length (.osl 1 0 ((l.take 1).map (·.1)).length 1) (.osl 2 0 ((l.take 1).map (·.2)).length 1) 1) (canS (kyC ((l.take 1).map (·.1)) ((l.take 1).map (·.2))) (pr l) 3 3) [2, 1] := by
  have hx := List.getElem?_eq_getElem hl
  have e1 : (l.take 1).map (·.1) = [l[0].1] := take1 hl (·.1)
  have e2 : (l.take 1).map (·.2) = [l[0].2] := take1 hl (·.2)
  rw [e1, e2]
  have ix : ∀ b, (Qst.idx 38 (.osl b 0 l.length 2) (.int .i64 (Int.ofNat 0)) (.ptr b (0 * 2))).ok Try.prog := fun b => idx_osl t38 s87 hl
  refine canY (K := [l[0].1]) (V := [l[0].2]) (m1 := 2) (m2 := 4) (runX_sound mixed none_sound (ky_n l.length 0 0 (0 * 2) l[0].1 l[0].2 .dead .dead (pr l) [] [] [] []) ⟨ltq _ _ true (by simpa using hl), ix 0, ld_key hx _ rfl, ix 0, ld_elt hx _ rfl, wq _ rfl (by omega), trivial⟩) (by decide) (by decide) (by decide) rfl rfl rfl ⟨.inr (.inl ⟨rfl, rfl⟩), .inr (.inl ⟨rfl, rfl⟩), .inr (.inl ⟨rfl, rfl⟩), .inr (.inl ⟨rfl, rfl⟩), .inr (.inr rfl), trivial⟩ rfl (show 1 ≤ 5 by decide) (fun b h1 _ => by
    have h1 : b < 1 := h1
    have : b = 0 := by omega
    subst this
    rfl) ?_
  unfold T15
  repeat (first | exact rfl | refine ⟨_, _, rfl, ?_, ?_⟩ | exact .inr ⟨rfl, rfl⟩ | exact .inl ⟨rfl, rfl⟩ | exact see_same _)
variable (hs : l.length ≤ 1000)
include hs
theorem y_step {i : Nat} (hi : i < l.length) :
    Go.Mini.Good Try.prog [(0, pr l)] (canS (kyC ((l.take i).map (·.1)) ((l.take i).map (·.2))) (pr l) 3 3) [2, 1] (T15 l.length (.osl 1 0 ((l.take i).map (·.1)).length 1) (.osl 2 0 ((l.take i).map (·.2)).length 1) i) (loopAt Try.prog 15 0) .normal (T15 l.length (.osl 1 0 ((l.take (i + 1)).map (·.1)).length 1) (.osl 2 0 ((l.take (i + 1)).map (·.2)).length 1) (i + 1)) (canS (kyC ((l.take (i + 1)).map (·.1)) ((l.take (i + 1)).map (·.2))) (pr l) 3 3) [2, 1] := by
  have hx := List.getElem?_eq_getElem hi
  have l1 : ((l.take i).map (·.1)).length = i := by simp; omega
  have l2 : ((l.take i).map (·.2)).length = i := by simp; omega
  have ix : ∀ b, (Qst.idx 38 (.osl b 0 l.length 2) (.int .i64 (Int.ofNat i)) (.ptr b (i * 2))).ok Try.prog := fun b => idx_osl t38 s87 hi
  have a1 := app_u (s := ⟨⟨[(3, .cells false [.int .u64 l[i].1]), (2, .cells false (((l.take i).map (·.2)).map uI)), (1, .cells false (((l.take i).map (·.1)).map uI)), (0, .cells true (pr l))], 4, none, []⟩, 4⟩) (b := 1) (b2 := 3) (A := (l.take i).map (·.1)) (z := l[i].1) rfl rfl (by omega)
  have a2 := app_u (s := ⟨⟨[(5, .cells false [.int .u64 l[i].2]), (4, .cells false (((l.take i).map (·.1) ++ [l[i].1]).map uI)), (3, .cells false [.int .u64 l[i].1]), (2, .cells false (((l.take i).map (·.2)).map uI)), (1, .dead), (0, .cells true (pr l))], 6, none, [1]⟩, 6⟩) (b := 2) (b2 := 5) (A := (l.take i).map (·.2)) (z := l[i].2) rfl rfl (by omega)
  rw [l1] at a1
  rw [l2] at a2
  have run := runX_sound mixed none_sound (ky_s l.length i i (i * 2) l[i].1 l[i].2 .dead .dead (pr l) (((l.take i).map (·.1)).map uI) (((l.take i).map (·.2)).map uI) (((l.take i).map (·.1) ++ [l[i].1]).map uI) (((l.take i).map (·.2) ++ [l[i].2]).map uI)) ⟨ltq _ _ true (by simpa using hi), ix 0, ld_key hx _ rfl, a1, ix 0, ld_elt hx _ rfl, a2, wq _ rfl (by omega), trivial⟩
  rw [take1 hi (·.1), take1 hi (·.2), l1, l2]
  have l3 : ((l.take i).map (·.1) ++ [l[i].1]).length = i + 1 := by simp; omega
  have l4 : ((l.take i).map (·.2) ++ [l[i].2]).length = i + 1 := by simp; omega
  have := canY (C0 := canS (kyC ((l.take i).map (·.1)) ((l.take i).map (·.2))) (pr l) 3 3) (foot0 := [2, 1]) (n := l.length) (i := i + 1) (K := (l.take i).map (·.1) ++ [l[i].1]) (V := (l.take i).map (·.2) ++ [l[i].2]) (m1 := 4) (m2 := 6) run (by decide) (by decide) (by decide) rfl rfl rfl ⟨.inr (.inl (freeU _)), .inr (.inl ⟨rfl, rfl⟩), .inr (.inl (freeU _)), .inr (.inl ⟨rfl, rfl⟩), .inl rfl, .inl rfl, .inr (.inr rfl), trivial⟩ rfl (show 3 ≤ 7 by decide) (fun b h1 h2 => by
    have h1 : b < 3 := h1
    have : b = 0 := by
      simp at h2
      omega
    subst this
    rfl)
  rw [l3, l4] at this ⊢
  refine this ?_
  unfold T15
  repeat (first | exact rfl | refine ⟨_, _, rfl, ?_, ?_⟩ | exact .inr ⟨rfl, rfl⟩ | exact .inl ⟨rfl, rfl⟩ | exact see_same _)
theorem y_tail : ∀ (m i : Nat), l.length - i = m → i ≤ l.length →
    Go.Mini.Good Try.prog [(0, pr l)] (canS (kyC ((l.take i).map (·.1)) ((l.take i).map (·.2))) (pr l) 3 3) [2, 1] (T15 l.length (.osl 1 0 ((l.take i).map (·.1)).length 1) (.osl 2 0 ((l.take i).map (·.2)).length 1) i) (.loop (loopAt Try.prog 15 0)) (.exit 0) (T15 l.length (.osl 1 0 ((l.take l.length).map (·.1)).length 1) (.osl 2 0 ((l.take l.length).map (·.2)).length 1) l.length) (canS (kyC ((l.take l.length).map (·.1)) ((l.take l.length).map (·.2))) (pr l) 3 3) [2, 1] := by
  intro m
  induction m with
  | zero =>
    intro i hm hi
    obtain rfl : i = l.length := by omega
    have l1 : ((l.take l.length).map (·.1)).length = l.length := by simp
    have l2 : ((l.take l.length).map (·.2)).length = l.length := by simp
    have run := runX_sound mixed none_sound (ky_end l.length l.length l.length 0 0 0 .dead .dead (pr l) (((l.take l.length).map (·.1)).map uI) (((l.take l.length).map (·.2)).map uI) [] []) ⟨ltq _ _ false (by simp), trivial⟩
    have := canY (C0 := canS (kyC ((l.take l.length).map (·.1)) ((l.take l.length).map (·.2))) (pr l) 3 3) (foot0 := [2, 1]) (bs1 := [(2, .cells false (((l.take l.length).map (·.2)).map uI)), (1, .cells false (((l.take l.length).map (·.1)).map uI)), (0, .cells true (pr l))])  (n := l.length) (i := l.length) (K := (l.take l.length).map (·.1)) (V := (l.take l.length).map (·.2)) (m1 := 1) (m2 := 2) run (by decide) (by decide) (by decide) rfl rfl rfl ⟨.inr (.inl (freeU _)), .inr (.inl (freeU _)), .inr (.inr rfl), trivial⟩ rfl (show 3 ≤ 3 by decide) (fun b _ _ => rfl)
    rw [l1, l2] at this ⊢
    refine Good.loop_stop (this ?_) (by simp)
    unfold T15
    repeat (first | exact rfl | refine ⟨_, _, rfl, ?_, ?_⟩ | exact .inr ⟨rfl, rfl⟩ | exact .inl ⟨rfl, rfl⟩ | exact see_same _)
  | succ m ih =>
    intro i hm hi
    exact Good.loop_next (show 0 < 3 by decide) (fun b o h hr => can_rw b o h hr) (y_step hs (show i < l.length by omega)) (ih (i + 1) (by omega) (by omega))
theorem keys_loop (hl : 0 < l.length) : Sound Try.prog (.code (.loop (loopAt Try.prog 15 0)) (T15 l.length .nilSlice .nilSlice 0) (canS [] (pr l) 1 1)) ⟨.exit 0, T15 l.length (.osl 1 0 l.length 1) (.osl 2 0 l.length 1) l.length, ((canS [] (pr l) 1 1).push (.cells false ((l.map (·.1)).map uI))).push (.cells false ((l.map (·.2)).map uI))⟩ := by
  have g2 := y_tail hs (l.length - 1) 1 rfl (by omega)
  obtain ⟨s1, π1, S1, A, n1⟩ := Good.loop_next (show 0 < 3 by decide) (fun b o h hr => by simpa using can_rw (bsC := []) b o h hr) (y_first hl) g2
  rw [List.take_length, List.length_map, List.length_map] at S1
  rw [List.take_length] at A
  have g1 : s1.get (π1 1) = some (.cells false ((l.map (·.1)).map uI)) := by
    obtain ⟨o, e1, e2, e3, e4⟩ := A.in_.rw 1 (by simp)
    have eo : o = .cells false ((l.map (·.1)).map uI) := (Option.some.inj e1).symm
    subst eo
    rw [(freeU _).ren] at e4
    exact e4
  have g2 : s1.get (π1 2) = some (.cells false ((l.map (·.2)).map uI)) := by
    obtain ⟨o, e1, e2, e3, e4⟩ := A.in_.rw 2 (by simp)
    have eo : o = .cells false ((l.map (·.2)).map uI) := (Option.some.inj e1).symm
    subst eo
    rw [(freeU _).ren] at e4
    exact e4
  have h0 : π1 0 = 0 := A.in_.zero
  have hm : ∀ b, s1.get (π1 b) ≠ some (.cells true (pr l)) → 1 ≤ π1 b := fun b hb => by
    by_cases h : 1 ≤ π1 b
    · exact h
    · have h0' : π1 b = 0 := by omega
      have := A.stays 0 (show 0 < 1 by decide) (by simp)
      rw [h0'] at hb
      exact absurd this hb
  have hm1 := hm 1 (by rw [g1]; intro h; cases h)
  have hm2 := hm 2 (by rw [g2]; intro h; cases h)
  have hne : π1 1 ≠ π1 2 := fun h => absurd (A.in_.inj 1 (by simp) 2 (by simp) h) (by decide)
  have o1 : objAt s1 (π1 1) = .cells false ((l.map (·.1)).map uI) := by simp [objAt, g1]
  have o2 : objAt s1 (π1 2) = .cells false ((l.map (·.2)).map uI) := by simp [objAt, g2]
  rw [rens_T15 _ _ _ _ h0] at S1
  have := Sound.putC (bs0 := []) (Fz := [(0, pr l)]) (n0 := 1) (nx0 := 1) S1 noG (fun b => b) [π1 1, π1 2] (canS [] (pr l) 1 1) (fun x hx => by
    have hx : x = (0, pr l) := by simpa using hx
    subst hx
    exact ⟨show 0 < 1 by decide, by simp, pr_names _ _, ⟨true, rfl⟩, fun b hb => by cases hb⟩) trivial (fun b hb => by cases hb) List.nodup_nil (by simp [hne]) (fun b hb => by
    have hb : b = π1 1 ∨ b = π1 2 := by simpa using hb
    rcases hb with rfl | rfl
    · exact ⟨hm1, by rw [o1]; rfl, by rw [o1]; exact uI_nm _ _⟩
    · exact ⟨hm2, by rw [o2]; rfl, by rw [o2]; exact uI_nm _ _⟩) rfl (by
    have p0 : pN 1 [π1 1, π1 2] 0 = true := by simp [pN]
    have p1 : pN 1 [π1 1, π1 2] (π1 1) = true := by simp [pN]
    have p2 : pN 1 [π1 1, π1 2] (π1 2) = true := by simp [pN]
    exact names_T15 p0 (a := (AV.osl 1 0 l.length 1).ren π1) (b := (AV.osl 2 0 l.length 1).ren π1) p1 p2 _ _)
  have r1 : pR 1 [π1 1, π1 2] (fun b => b) 1 (π1 1) = 1 := by
    unfold pR
    rw [if_neg (by omega)]
    simp
  have r2 : pR 1 [π1 1, π1 2] (fun b => b) 1 (π1 2) = 2 := by
    unfold pR
    rw [if_neg (by omega)]
    have hb : (π1 1 == π1 2) = false := by simpa using hne
    simp [List.idxOf_cons, hb]
  rw [rens_T15 _ _ _ _ (by simp [pR]), rens_T15 _ _ _ _ (by simp [pR]), show ((AV.osl 1 0 l.length 1).ren π1).ren (pR 1 [π1 1, π1 2] (fun b => b) (canS [] (pr l) 1 1).nx) = .osl 1 0 l.length 1 from by
    show AV.osl (pR 1 [π1 1, π1 2] (fun b => b) 1 (π1 1)) 0 _ 1 = _
    rw [r1], show ((AV.osl 2 0 l.length 1).ren π1).ren (pR 1 [π1 1, π1 2] (fun b => b) (canS [] (pr l) 1 1).nx) = .osl 2 0 l.length 1 from by
    show AV.osl (pR 1 [π1 1, π1 2] (fun b => b) 1 (π1 2)) 0 _ 1 = _
    rw [r2]] at this
  simp only [List.map_nil, setL, List.map_cons, pushL, o1, o2, (freeU _).ren] at this
  exact this
end
/-- An object that holds a list of numbers, or, where there is none, nothing. -/
def rowO (L : List Int) : AObj := if L = [] then phO else .cells false (L.map uI)
theorem rowO_free (L : List Int) : Free (rowO L) := by
  unfold rowO
  split
  · exact phFree
  · exact freeU L
/-- keys, wherever the row lies. -/
theorem keysC {l : List Pr} (hs : l.length ≤ 1000) {s : AS} {b : Nat} (hb : l ≠ [] → ∃ ro, s.get b = some (.cells ro (pr l))) :
    Sound Try.prog (.call 15 [lv l b] s) ⟨.ret, [.tuple [qD (l.map (·.1)) s.nx, qD (l.map (·.2)) (s.nx + 1)]], (s.push (rowO (l.map (·.1)))).push (rowO (l.map (·.2)))⟩ := by
  cases l with
  | nil => exact Sound.ghost phO (Sound.ghost phO (Sound.put (bs0 := []) (runX_sound mixed none_sound (ky_nil 0 0 0 0 0 0 .dead .dead [] [] [] [] []) trivial) noG (fun b => b) [] s trivial (fun b hb => by cases hb) List.nodup_nil List.nodup_nil (fun b hb => by cases hb) rfl rfl))
  | cons p l' =>
    generalize hl : p :: l' = l at *
    have hne : l ≠ [] := by rw [← hl]; simp
    have hpos : 0 < l.length := by rw [← hl]; simp
    have e1 : l.map (·.1) ≠ [] := by rw [← hl]; simp
    have e2 : l.map (·.2) ≠ [] := by rw [← hl]; simp
    have lp := Sound.enter (keys_loop hs hpos) (show seesT _ _ _ [AV.osl 0 0 l.length 2, AV.tuple [], AV.nilSlice, AV.nilSlice, AV.nilSlice, AV.nilSlice, AV.int IntKind.i64 (Int.ofNat 0), AV.tuple [], AV.tuple [], AV.tuple [], AV.tuple [], AV.tuple [], AV.tuple [], AV.tuple [], AV.tuple [], AV.tuple [], AV.tuple [], AV.tuple [], AV.tuple [], AV.tuple [], AV.tuple [], AV.tuple [], AV.tuple [], AV.tuple [], AV.tuple [], AV.tuple [], AV.tuple [], AV.tuple [], AV.tuple [], AV.tuple [], AV.tuple []] by
      unfold T15
      repeat (first | exact rfl | refine ⟨_, _, rfl, ?_, ?_⟩ | exact .inr ⟨rfl, rfl⟩ | exact .inl ⟨rfl, rfl⟩ | exact see_same _))
    have h := Sound.putF (bs0 := []) (Fz := [(0, pr l)]) (n0 := 1) (nx0 := 1) (runX_sound mixed none_sound (ky_call l.length 0 0 0 0 0 .dead .dead (pr l) ((l.map fun p : Pr => p.1).map uI) ((l.map fun p : Pr => p.2).map uI) [] []) ⟨lp, trivial⟩) noG (fun _ => b) [1, 2] s (fun x hx => by
      have hx : x = (0, pr l) := by simpa using hx
      subst hx
      exact ⟨show 0 < 1 by decide, by simp, pr_names _ _, hb hne, fun b hb => by cases hb⟩) trivial (fun b hb => by cases hb) List.nodup_nil (by decide) (fun b hb => by
      have hb : b = 1 ∨ b = 2 := by simpa using hb
      rcases hb with rfl | rfl
      · exact ⟨by decide, rfl, uI_nm _ _⟩
      · exact ⟨by decide, rfl, uI_nm _ _⟩) rfl rfl
    simp only [List.map_nil, setL, List.map_cons, pushL] at h
    have t1 : ∀ π, (objAt (⟨⟨[(2, AObj.cells false ((l.map (·.2)).map uI)), (1, AObj.cells false ((l.map (·.1)).map uI)), (0, AObj.cells true (pr l))], 3, none, []⟩, 3⟩ : AS) 1).ren π = rowO (l.map (·.1)) := fun π => by
      rw [show rowO (l.map (·.1)) = .cells false ((l.map (·.1)).map uI) from if_neg e1]
      exact (freeU _).ren π
    have t2 : ∀ π, (objAt (⟨⟨[(2, AObj.cells false ((l.map (·.2)).map uI)), (1, AObj.cells false ((l.map (·.1)).map uI)), (0, AObj.cells true (pr l))], 3, none, []⟩, 3⟩ : AS) 2).ren π = rowO (l.map (·.2)) := fun π => by
      rw [show rowO (l.map (·.2)) = .cells false ((l.map (·.2)).map uI) from if_neg e2]
      exact (freeU _).ren π
    rw [t1, t2] at h
    rw [show lv l b = .osl b 0 l.length 2 from if_neg hne, show qD (l.map (·.1)) s.nx = .osl s.nx 0 l.length 1 from (if_neg e1).trans (by rw [List.length_map]), show qD (l.map (·.2)) (s.nx + 1) = .osl (s.nx + 1) 0 l.length 1 from (if_neg e2).trans (by rw [List.length_map])]
    exact h
end Go.Proofs.Ythooafgfpnedhaa.specsDo.sd
namespace Go.Proofs.Ythooafgfpnedhaa.specsDo.sd
open Go Go.Mini
/-! ### the document's Do, in the law's state -/
def mvD (r N b : Nat) : Nat := if b = r ∧ r ≠ 0 then N else b + 4
def uniD (s : AS) (c8 : List AV) (x1 x2 x3 : AObj) : AS := (((s.set 8 (.cells false c8)).set 5 x1).set 6 x2).set 7 x3
def piD (b : Nat) : Nat := if b = 0 then 0 else if b = 6 then 9 else if b = 5 then 10 else b + 4
theorem lv_nmp (l : List Pr) {p : Nat → Bool} {b : Nat} (h : p b = true) : (lv l b).names p = true := by
  unfold lv
  split
  · rfl
  · exact h
theorem qD_nmp (l : List Int) {p : Nat → Bool} {b : Nat} (h : p b = true) : (qD l b).names p = true := by
  unfold qD
  split
  · rfl
  · exact h
section
variable {s : AS} {ds : DP} {o1 o2 o3 cp oW : AObj} {row : List AV} {op : Nat} {k v : Int} (hS : ds.1.length ≤ 1000) (hT : ds.2.1.length ≤ 1000) (hQ : ds.2.2.length ≤ 1000) (inv : InvD ds ⟨lv ds.1 1, lv ds.2.1 2, qD ds.2.2 3, o1, o2, o3⟩)
  (h0 : s.get 0 = some (.cells true row)) (hrow : namess (fun _ => false) row = true) (h5 : s.get 5 = some o1) (h6 : s.get 6 = some o2) (h7 : s.get 7 = some o3) (h8 : s.get 8 = some (.cells false [lv ds.1 5, lv ds.2.1 6, qD ds.2.2 7])) (h9 : s.get 9 = some cp) (hcp : Free cp) (h10 : s.get 10 = some oW) (hoW : Free oW)
include hS hT hQ inv h0 hrow h5 h6 h7 h8 h9 hcp h10 hoW
theorem doD_at : ∃ st' r nn x1 x2 x3 xA xB, InvD (stepD ds op k v).2 st' ∧ AfterD st' r nn x1 x2 x3 xA xB ∧
    Sound Try.prog (.call 14 [.ptr 8 0, .int .i64 (Int.ofNat op), .int .u64 k, .int .u64 v] s) ⟨.ret, [.tuple [.int .i64 (Int.ofNat (stepD ds op k v).1.1), .int .u64 (stepD ds op k v).1.2]],
      ((uniD s [lv (stepD ds op k v).2.1 (mvD r (s.nx + (nn - 7)) 1), lv (stepD ds op k v).2.2.1 (mvD r (s.nx + (nn - 7)) 2), qD (stepD ds op k v).2.2.2 (mvD r (s.nx + (nn - 7)) 3)] x1 x2 x3).push xA).push xB⟩ := by
  obtain ⟨st', r, nn, x1, x2, x3, xA, xB, q1, q4, q5⟩ := doD (cp := cp) (oW := oW) (row := row) (op := op) (k := k) (v := v) hS hT hQ inv
  refine ⟨st', r, nn, x1, x2, x3, xA, xB, q1, q4, ?_⟩
  generalize stepD ds op k v = rr at q1 q5
  have c0 := q4.le
  have c1 := q4.hn
  have f3 : (x3.rw = true ∨ x3 = .dead) ∧ ∀ p, x3.names p = true := by
    rcases q4.f3 with h | h
    · rw [h]
      exact ⟨.inr rfl, fun _ => rfl⟩
    · exact ⟨.inl h.1, h.nm⟩
  have r3 : ∀ π, x3.ren π = x3 := fun π => by
    rcases q4.f3 with h | h
    · rw [h]
      rfl
    · exact h.ren π
  have nmv : ∀ b, b = 1 ∨ b = 2 ∨ b = 3 → pN 7 [7, 8] (moved r nn b) = true := fun b hb => by
    rcases c0 with rfl | rfl | rfl | rfl <;> rcases c1 with rfl | rfl <;> rcases hb with rfl | rfl | rfl <;> rfl
  have q6 := Sound.wrCall (W := [6]) (l := [3, 2, 1, 4]) q5 .ret none none []
  have h := Sound.putF (bs0 := [(6, cp), (5, oW), (4, .cells false [lv ds.1 1, lv ds.2.1 2, qD ds.2.2 3]), (3, o3), (2, o2), (1, o1)]) (Fz := [(0, row)]) (n0 := 7) (nx0 := 7) q6 noG piD [7, 8] s (fun x hx => by
      have hx : x = (0, row) := by simpa using hx
      subst hx
      refine ⟨show 0 < 7 by decide, by simp, hrow, ⟨true, h0⟩, ?_⟩
      show ∀ b ∈ [6, 5, 4, 3, 2, 1], piD b ≠ piD 0
      decide)
    ⟨⟨show 6 < 7 by decide, hcp.1, hcp.nm _, rfl, by rw [hcp.ren]; exact h9, .inl hcp.1, hcp.nm _⟩,
      ⟨show 5 < 7 by decide, hoW.1, hoW.nm _, rfl, by rw [hoW.ren]; exact h10, .inl hoW.1, hoW.nm _⟩,
      ⟨show 4 < 7 by decide, rfl, and2 (lv_nm _ (by decide)) (and2 (lv_nm _ (by decide)) (and2 (qD_nm _ (by decide)) rfl)), rfl, by
        show s.get 8 = some (.cells false [(lv ds.1 1).ren piD, (lv ds.2.1 2).ren piD, (qD ds.2.2 3).ren piD])
        rw [lv_ren, lv_ren, qD_ren]
        exact h8, .inl rfl, by
        show namess (pN 7 [7, 8]) [st'.mS.ren (moved r nn), st'.mT.ren (moved r nn), st'.q.ren (moved r nn)] = true
        rw [q1.s.1, q1.t.1, q1.q.1, lv_ren, lv_ren, qD_ren]
        exact and2 (lv_nmp _ (nmv 1 (by simp))) (and2 (lv_nmp _ (nmv 2 (by simp))) (and2 (qD_nmp _ (nmv 3 (by simp))) rfl))⟩,
      ⟨show 3 < 7 by decide, inv.q.2.1.1, inv.q.2.1.nm _, rfl, by rw [inv.q.2.1.ren]; exact h7, f3.1, f3.2 _⟩,
      ⟨show 2 < 7 by decide, inv.t.2.1.1, inv.t.2.1.nm _, rfl, by rw [inv.t.2.1.ren]; exact h6, .inl q4.f2.1, q4.f2.nm _⟩,
      ⟨show 1 < 7 by decide, inv.s.2.1.1, inv.s.2.1.nm _, rfl, by rw [inv.s.2.1.ren]; exact h5, .inl q4.f1.1, q4.f1.nm _⟩, trivial⟩
    (show ∀ b ∈ [6, 5, 4, 3, 2, 1], ∀ c ∈ [6, 5, 4, 3, 2, 1], piD b = piD c → b = c by decide) (show [6, 5, 4, 3, 2, 1].Nodup by decide) (show [7, 8].Nodup by decide) (fun b hb => by
      have hb : b = 7 ∨ b = 8 := by simpa using hb
      rcases hb with rfl | rfl
      · exact ⟨by decide, q4.fA.1, q4.fA.nm _⟩
      · exact ⟨by decide, q4.fB.1, q4.fB.nm _⟩) rfl rfl
  have cell : ∀ π, π = pR 7 [7, 8] piD s.nx → (AObj.cells false [st'.mS.ren (moved r nn), st'.mT.ren (moved r nn), st'.q.ren (moved r nn)]).ren π = .cells false [lv rr.2.1 (mvD r (s.nx + (nn - 7)) 1), lv rr.2.2.1 (mvD r (s.nx + (nn - 7)) 2), qD rr.2.2.2 (mvD r (s.nx + (nn - 7)) 3)] := fun π hπ => by
    show AObj.cells false [(st'.mS.ren (moved r nn)).ren π, (st'.mT.ren (moved r nn)).ren π, (st'.q.ren (moved r nn)).ren π] = _
    rw [q1.s.1, q1.t.1, q1.q.1, lv_ren, lv_ren, qD_ren, lv_ren, lv_ren, qD_ren]
    have e : ∀ b, b = 1 ∨ b = 2 ∨ b = 3 → π (moved r nn b) = mvD r (s.nx + (nn - 7)) b := fun b hb => by
      rw [hπ]
      rcases c0 with rfl | rfl | rfl | rfl <;> rcases c1 with rfl | rfl <;> rcases hb with rfl | rfl | rfl <;> rfl
    rw [e 1 (by simp), e 2 (by simp), e 3 (by simp)]
  simp only [List.map_cons, List.map_nil, setL, pushL] at h
  have t6 : ∀ π, (objAt (UN cp oW row [st'.mS.ren (moved r nn), st'.mT.ren (moved r nn), st'.q.ren (moved r nn)] x1 x2 x3 xA xB) 6).ren π = cp := fun π => hcp.ren π
  have h' : Sound Try.prog (.call 14 [.ptr 8 0, .int .i64 (Int.ofNat op), .int .u64 k, .int .u64 v] s) ⟨.ret, [.tuple [.int .i64 (Int.ofNat rr.1.1), .int .u64 rr.1.2]], ((((((((s.set 9 cp).set 10 oW).set 8 (.cells false [lv rr.2.1 (mvD r (s.nx + (nn - 7)) 1), lv rr.2.2.1 (mvD r (s.nx + (nn - 7)) 2), qD rr.2.2.2 (mvD r (s.nx + (nn - 7)) 3)])).set 7 x3).set 6 x2).set 5 x1).push xA).push xB)⟩ := by
    rw [← cell _ rfl, ← hcp.ren (pR 7 [7, 8] piD s.nx), ← hoW.ren (pR 7 [7, 8] piD s.nx), ← r3 (pR 7 [7, 8] piD s.nx), ← q4.f2.ren (pR 7 [7, 8] piD s.nx), ← q4.f1.ren (pR 7 [7, 8] piD s.nx), ← q4.fA.ren (pR 7 [7, 8] piD s.nx), ← q4.fB.ren (pR 7 [7, 8] piD s.nx)]
    exact h
  refine Sound.recast h' (fun c => ?_) ?_ rfl rfl ⟨[7, 6, 5, 8], rfl, fun c hc hn => ?_⟩
  · unfold uniD
    rw [get_push, get_push, get_push, get_push]
    simp only [get_set]
    by_cases e5 : c = 5
    · subst e5; simp [h5]
    by_cases e6 : c = 6
    · subst e6; simp [h6]
    by_cases e7 : c = 7
    · subst e7; simp [h7]
    by_cases e8 : c = 8
    · subst e8; simp [h8]
    by_cases e9 : c = 9
    · subst e9; simp [h9]
    by_cases e10 : c = 10
    · subst e10; simp [h10]
    simp [e5, e6, e7, e8, e9, e10]
  · show (s.nx + 1) :: s.nx :: (setB (setB (setB (setB s.h.bs 8 _) 5 x1) 6 x2) 7 x3).map (·.1) = (s.nx + 1) :: s.nx :: (setB (setB (setB (setB (setB (setB s.h.bs 9 cp) 10 oW) 8 _) 7 x3) 6 x2) 5 x1).map (·.1)
    simp only [setB_keys]
  · have hc : c < s.nx := hc
    simp only [List.mem_cons, List.not_mem_nil, or_false, not_or] at hn
    rw [get_push, if_neg (by show ¬ s.nx + 1 = c; omega), get_push, if_neg (by show ¬ s.nx = c; omega)]
    unfold uniD
    simp only [get_set]
    simp [hn.1, hn.2.1, hn.2.2.1, hn.2.2.2]
end
end Go.Proofs.Ythooafgfpnedhaa.specsDo.sd
namespace Go.Proofs.Ythooafgfpnedhaa.specsDo.sd
open Go Go.Mini
theorem qu_n0 (mS mT : AV) : runX Try.prog none_ 80 12 (.call 12 [.ptr 4 0] ⟨⟨[(4, .cells false [mS, mT, .nilSlice])], 1, none, []⟩, 8⟩) [] = some ({ e := .ret, ts := [.nilSlice], s := ⟨⟨[(4, .cells false [mS, mT, .nilSlice])], 1, none, []⟩, 8⟩ }, [], []) := by kernel_rfl
theorem qu_z0 (k : Nat) (D : List AV) (mS mT : AV) : runX Try.prog none_ 80 12 (.call 12 [.ptr 4 0] ⟨⟨[(4, .cells false [mS, mT, .osl 5 k 0 1]), (5, .cells false D)], 2, none, []⟩, 8⟩) [] = some ({ e := .ret, ts := [.slice 8 0 0 0], s := ⟨⟨[(8, .cells false []), (4, .cells false [mS, mT, .osl 5 k 0 1]), (5, .cells false D)], 3, none, []⟩, 9⟩ }, [], []) := by kernel_rfl
theorem sp_n0  : runX Try.prog none_ 80 25 (.call 25 [.nilSlice] ⟨⟨[], 0, none, []⟩, 1⟩) [] = some ({ e := .ret, ts := [uD], s := ⟨⟨[], 0, none, []⟩, 1⟩ }, [], []) := by kernel_rfl
end Go.Proofs.Ythooafgfpnedhaa.specsDo.sd
namespace Go.Proofs.Ythooafgfpnedhaa.specsDo.sd
open Go Go.Mini
/-! ### the program's state and the document's say the same -/
theorem gm_mem {k x : Int} : ∀ {es : List Pr}, getM es k = some x → (k, x) ∈ es
  | [], h => by cases h
  | y :: t, h => by
    have h : (if k = y.1 then some y.2 else getM t k) = some x := h
    split at h
    · rename_i e
      have : y = (k, x) := by
        obtain ⟨a, b⟩ := y
        simp only at e h
        rw [← e, Option.some.inj h]
      rw [this]
      exact List.mem_cons_self
    · exact List.mem_cons_of_mem _ (gm_mem h)
theorem gm_none {k : Int} : ∀ {es : List Pr}, getM es k = none → ∀ x, (k, x) ∉ es
  | [], _, _, h => by cases h
  | y :: t, h, x, hm => by
    have h : (if k = y.1 then some y.2 else getM t k) = none := h
    split at h
    · cases h
    · rename_i e
      rcases List.mem_cons.1 hm with hm | hm
      · rw [← hm] at e
        exact e rfl
      · exact gm_none h x hm
def SrtK (l : List Pr) : Prop := l.Pairwise fun a b => a.1 < b.1
theorem srtK_one {l : List Pr} (h : SrtK l) {k x y : Int} (hx : (k, x) ∈ l) (hy : (k, y) ∈ l) : x = y := by
  obtain ⟨i, hi, ei⟩ := List.getElem_of_mem hx
  obtain ⟨j, hj, ej⟩ := List.getElem_of_mem hy
  have hp := List.pairwise_iff_getElem.1 h
  rcases Nat.lt_trichotomy i j with hlt | rfl | hlt
  · have := hp i j hi hj hlt
    rw [ei, ej] at this
    exact absurd this (Int.lt_irrefl _)
  · rw [ei] at ej
    exact (Prod.mk.inj ej).2
  · have := hp j i hj hi hlt
    rw [ei, ej] at this
    exact absurd this (Int.lt_irrefl _)
theorem has_true {l : List Pr} {k : Int} (h : hasL l k = true) : (k, valL l k) ∈ l := by
  obtain ⟨_, p, h2, h3, h4⟩ := hasL_lt h
  have := List.mem_of_getElem? h2
  rw [← h4, ← h3]
  exact this
theorem has_false {l : List Pr} (hs : SrtK l) {k : Int} (h : hasL l k = false) (x : Int) : (k, x) ∉ l := by
  intro hm
  obtain ⟨j, hj, ej⟩ := List.getElem_of_mem hm
  have hp := List.pairwise_iff_getElem.1 hs
  by_cases h1 : j < posL l k
  · obtain ⟨p, e1, e2⟩ := posL_lt l k j h1
    rw [List.getElem?_eq_getElem hj, ej] at e1
    rw [← Option.some.inj e1] at e2
    exact Int.lt_irrefl _ e2
  · have h2 : posL l k < l.length := by omega
    obtain ⟨p, e1, e2⟩ := posL_at l k h2
    have e3 : l[posL l k] = p := by
      rw [List.getElem?_eq_getElem h2] at e1
      exact Option.some.inj e1
    by_cases h3 : j = posL l k
    · subst h3
      rw [ej] at e3
      unfold hasL at h
      rw [e1, ← e3] at h
      simp at h
    · have := hp _ _ h2 hj (by omega)
      rw [e3, ej] at this
      exact e2 this
structure RelM (m l : List Pr) : Prop where
  perm : m.Perm l
  srt : SrtK l
theorem RelM.get {m l : List Pr} (h : RelM m l) (k : Int) : getM m k = if hasL l k then some (valL l k) else none := by
  cases hh : hasL l k with
  | true =>
    have h1 := has_true hh
    cases hg : getM m k with
    | none => exact absurd (h.perm.mem_iff.2 h1) (gm_none hg _)
    | some x =>
      have h2 := h.perm.mem_iff.1 (gm_mem hg)
      rw [srtK_one h.srt h2 h1]
      rfl
  | false =>
    cases hg : getM m k with
    | none => rfl
    | some x => exact absurd (h.perm.mem_iff.1 (gm_mem hg)) (has_false h.srt hh x)
theorem put_perm {k v : Int} : ∀ {es : List Pr}, getM es k = none → (putM es k v).Perm ((k, v) :: es)
  | [], _ => List.Perm.refl _
  | y :: t, h => by
    have h : (if k = y.1 then some y.2 else getM t k) = none := h
    split at h
    · cases h
    · rename_i e
      show (if k = y.1 then (k, v) :: t else y :: putM t k v).Perm _
      rw [if_neg e]
      exact ((put_perm h).cons y).trans (List.Perm.swap _ _ _)
theorem del_perm {k x : Int} : ∀ {es : List Pr}, getM es k = some x → es.Perm ((k, x) :: delM es k)
  | [], h => by cases h
  | y :: t, h => by
    have h : (if k = y.1 then some y.2 else getM t k) = some x := h
    show (y :: t).Perm ((k, x) :: (if k = y.1 then t else y :: delM t k))
    split at h
    · rename_i e
      rw [if_pos e]
      have : y = (k, x) := by
        obtain ⟨a, b⟩ := y
        simp only at e h
        rw [← e, Option.some.inj h]
      rw [this]
    · rename_i e
      rw [if_neg e]
      exact ((del_perm h).cons y).trans (List.Perm.swap _ _ _)
theorem RelM.ins {m l : List Pr} (h : RelM m l) {k : Int} (v : Int) (hh : hasL l k = false) : RelM (putM m k v) (insL l k v) := by
  have hg : getM m k = none := by rw [h.get, hh]; rfl
  have hp := List.pairwise_iff_getElem.1 h.srt
  refine ⟨(put_perm hg).trans ((h.perm.cons _).trans ?_), ?_⟩
  · have : ((k, v) :: (l.take (posL l k) ++ l.drop (posL l k))).Perm (insL l k v) := List.perm_middle.symm
    rw [List.take_append_drop] at this
    exact this
  · have ht : ∀ a ∈ l.take (posL l k), a.1 < k := fun a ha => by
      obtain ⟨j, hj, rfl⟩ := List.getElem_of_mem ha
      have hj' : j < posL l k := by
        rw [List.length_take] at hj
        omega
      obtain ⟨p, e1, e2⟩ := posL_lt l k j hj'
      rw [List.getElem_take]
      rw [List.getElem?_eq_getElem (by rw [List.length_take] at hj; omega)] at e1
      rw [Option.some.inj e1]
      exact e2
    have hd : ∀ a ∈ l.drop (posL l k), k < a.1 := fun a ha => by
      obtain ⟨j, hj, rfl⟩ := List.getElem_of_mem ha
      have hj' : posL l k + j < l.length := by
        rw [List.length_drop] at hj
        omega
      have h2 : posL l k < l.length := by omega
      obtain ⟨p, e1, e2⟩ := posL_at l k h2
      have e3 : l[posL l k] = p := by
        rw [List.getElem?_eq_getElem h2] at e1
        exact Option.some.inj e1
      have hne : p.1 ≠ k := fun e => by
        unfold hasL at hh
        rw [e1] at hh
        simp [e] at hh
      have hge : ∀ i (hi : posL l k + i < l.length), p.1 ≤ (l[posL l k + i]).1 := fun i hi => by
        cases i with
        | zero => simp only [Nat.add_zero, e3]; exact Int.le_refl _
        | succ i =>
          have := hp _ _ h2 hi (by omega)
          rw [e3] at this
          exact Int.le_of_lt this
      rw [List.getElem_drop]
      have := hge j hj'
      omega
    show SrtK (l.take _ ++ (k, v) :: l.drop _)
    refine List.pairwise_append.2 ⟨List.Pairwise.sublist (List.take_sublist _ _) h.srt, List.pairwise_cons.2 ⟨fun a ha => hd a ha, List.Pairwise.sublist (List.drop_sublist _ _) h.srt⟩, fun a ha b hb => ?_⟩
    rcases List.mem_cons.1 hb with rfl | hb
    · exact ht a ha
    · exact Int.lt_trans (ht a ha) (hd b hb)
theorem RelM.del {m l : List Pr} (h : RelM m l) {k : Int} (hh : hasL l k = true) : RelM (delM m k) (delL l k) := by
  have hg : getM m k = some (valL l k) := by rw [h.get, hh]; rfl
  obtain ⟨h1, p, h2, h3, h4⟩ := hasL_lt hh
  have e3 : l[posL l k] = (k, valL l k) := by
    rw [List.getElem?_eq_getElem h1] at h2
    rw [Option.some.inj h2, ← h4, ← h3]
  have hl : l = l.take (posL l k) ++ (k, valL l k) :: l.drop (posL l k + 1) := by
    rw [← e3, ← List.drop_eq_getElem_cons h1, List.take_append_drop]
  refine ⟨?_, List.Pairwise.sublist (show (delL l k).Sublist l from ?_) h.srt⟩
  · have p1 : ((k, valL l k) :: delM m k).Perm l := (del_perm hg).symm.trans h.perm
    have p2 : l.Perm ((k, valL l k) :: delL l k) := by
      conv => lhs; rw [hl]
      exact List.perm_middle
    exact (p1.trans p2).cons_inv
  · unfold delL
    conv => rhs; rw [hl]
    exact List.Sublist.append (List.Sublist.refl _) (List.sublist_cons_self _ _)
/-! how long lists may be -/
theorem delL_le (l : List Pr) (k : Int) : (delL l k).length ≤ l.length := by
  unfold delL
  simp
  omega
theorem popD_len (ds : DP) : (popD ds).2.1 = ds.1 ∧ (popD ds).2.2.1 = ds.2.1 ∧ (popD ds).2.2.2.length ≤ ds.2.2.length := by
  unfold popD
  split
  · exact ⟨rfl, rfl, Nat.le_refl _⟩
  · rename_i x Q h
    refine ⟨rfl, rfl, ?_⟩
    rw [h]
    exact Nat.le_succ _
theorem stepD_len (ds : DP) (op : Nat) (k v : Int) : (stepD ds op k v).2.1.length ≤ ds.1.length + 1 ∧ (stepD ds op k v).2.2.1.length ≤ ds.2.1.length + 1 ∧ (stepD ds op k v).2.2.2.length ≤ ds.2.2.length + 1 := by
  have d1 := delL_le ds.1 k
  have d2 := delL_le ds.2.1 k
  have i1 := insL_len ds.1 k 0
  have i2 := insL_len ds.2.1 k v
  obtain ⟨p1, p2, p3⟩ := popD_len ds
  unfold stepD
  split
  · split <;> refine ⟨?_, ?_, ?_⟩ <;> simp only <;> omega
  · split <;> refine ⟨?_, ?_, ?_⟩ <;> simp only <;> omega
  · exact ⟨Nat.le_succ _, Nat.le_succ _, Nat.le_succ _⟩
  · refine ⟨Nat.le_succ _, Nat.le_succ _, ?_⟩
    simp
  · rw [p1, p2]
    exact ⟨Nat.le_succ _, Nat.le_succ _, by omega⟩
  · split <;> refine ⟨?_, ?_, ?_⟩ <;> simp only <;> omega
  · split <;> refine ⟨?_, ?_, ?_⟩ <;> simp only <;> omega
  · split <;> exact ⟨Nat.le_succ _, Nat.le_succ _, Nat.le_succ _⟩
  · exact ⟨Nat.le_succ _, Nat.le_succ _, Nat.le_succ _⟩
structure Rel (ps : PS) (ds : DP) : Prop where
  s : RelM ps.1 ds.1
  t : RelM ps.2.1 ds.2.1
  q : ps.2.2 = ds.2.2
theorem put_rel {m l : List Pr} (h : RelM m l) (k v : Int) : (putP m k v).1 = (if hasL l k then (2, 0) else (1, 0)) ∧ RelM (putP m k v).2 (if hasL l k then l else insL l k v) := by
  have hg := h.get k
  unfold putP
  cases hh : hasL l k with
  | true =>
    rw [hh] at hg
    rw [hg]
    exact ⟨rfl, h⟩
  | false =>
    rw [hh] at hg
    rw [hg]
    exact ⟨rfl, h.ins v hh⟩
theorem drop_rel {m l : List Pr} (h : RelM m l) (k : Int) : (dropP m k).1 = (if hasL l k then (1, 0) else (2, 0)) ∧ RelM (dropP m k).2 (if hasL l k then delL l k else l) := by
  have hg := h.get k
  unfold dropP
  cases hh : hasL l k with
  | true =>
    rw [hh] at hg
    rw [hg]
    exact ⟨rfl, h.del hh⟩
  | false =>
    rw [hh] at hg
    rw [hg]
    exact ⟨rfl, h⟩
theorem step_rel {ps : PS} {ds : DP} (h : Rel ps ds) (op : Nat) (k v : Int) : (stepP ps op k v).1 = (stepD ds op k v).1 ∧ Rel (stepP ps op k v).2 (stepD ds op k v).2 := by
  have c : op = 0 ∨ op = 1 ∨ op = 2 ∨ op = 3 ∨ op = 4 ∨ op = 5 ∨ op = 6 ∨ op = 7 ∨ 8 ≤ op := by omega
  rcases c with rfl | rfl | rfl | rfl | rfl | rfl | rfl | rfl | h8
  · obtain ⟨e1, e2⟩ := put_rel h.s k 0
    show (putP ps.1 k 0).1 = (if hasL ds.1 k then _ else _ : (Nat × Int) × DP).1 ∧ Rel ((putP ps.1 k 0).2, ps.2.1, ps.2.2) (if hasL ds.1 k then _ else _ : (Nat × Int) × DP).2
    cases hh : hasL ds.1 k <;> rw [hh] at e1 e2 <;> exact ⟨e1, ⟨e2, h.t, h.q⟩⟩
  · obtain ⟨e1, e2⟩ := drop_rel h.s k
    show (dropP ps.1 k).1 = (if hasL ds.1 k then _ else _ : (Nat × Int) × DP).1 ∧ Rel ((dropP ps.1 k).2, ps.2.1, ps.2.2) (if hasL ds.1 k then _ else _ : (Nat × Int) × DP).2
    cases hh : hasL ds.1 k <;> rw [hh] at e1 e2 <;> exact ⟨e1, ⟨e2, h.t, h.q⟩⟩
  · refine ⟨?_, h⟩
    show (if (getM ps.1 k).isSome then 1 else 2, (0 : Int)) = (if hasL ds.1 k then 1 else 2, 0)
    rw [h.s.get k]
    cases hasL ds.1 k <;> rfl
  · refine ⟨rfl, h.s, h.t, ?_⟩
    show ps.2.2 ++ [v] = ds.2.2 ++ [v]
    rw [h.q]
  · show (match ps.2.2 with
      | [] => ((2, 0), ps)
      | x :: Q => ((1, x), ps.1, ps.2.1, Q) : (Nat × Int) × PS).1 = (popD ds).1 ∧ Rel (match ps.2.2 with
      | [] => ((2, 0), ps)
      | x :: Q => ((1, x), ps.1, ps.2.1, Q) : (Nat × Int) × PS).2 (popD ds).2
    have hq := h.q
    unfold popD
    cases hd : ds.2.2 with
    | nil =>
      rw [hd] at hq
      rw [hq]
      exact ⟨rfl, h⟩
    | cons x Q =>
      rw [hd] at hq
      rw [hq]
      exact ⟨rfl, ⟨h.s, h.t, rfl⟩⟩
  · obtain ⟨e1, e2⟩ := put_rel h.t k v
    show (putP ps.2.1 k v).1 = (if hasL ds.2.1 k then _ else _ : (Nat × Int) × DP).1 ∧ Rel (ps.1, (putP ps.2.1 k v).2, ps.2.2) (if hasL ds.2.1 k then _ else _ : (Nat × Int) × DP).2
    cases hh : hasL ds.2.1 k <;> rw [hh] at e1 e2 <;> exact ⟨e1, ⟨h.s, e2, h.q⟩⟩
  · obtain ⟨e1, e2⟩ := drop_rel h.t k
    show (dropP ps.2.1 k).1 = (if hasL ds.2.1 k then _ else _ : (Nat × Int) × DP).1 ∧ Rel (ps.1, (dropP ps.2.1 k).2, ps.2.2) (if hasL ds.2.1 k then _ else _ : (Nat × Int) × DP).2
    cases hh : hasL ds.2.1 k <;> rw [hh] at e1 e2 <;> exact ⟨e1, ⟨h.s, e2, h.q⟩⟩
  · have hg := h.t.get k
    show (match getM ps.2.1 k with
      | some x => ((1, x), ps)
      | none => ((2, 0), ps) : (Nat × Int) × PS).1 = (if hasL ds.2.1 k then _ else _ : (Nat × Int) × DP).1 ∧ Rel (match getM ps.2.1 k with
      | some x => ((1, x), ps)
      | none => ((2, 0), ps) : (Nat × Int) × PS).2 (if hasL ds.2.1 k then _ else _ : (Nat × Int) × DP).2
    cases hh : hasL ds.2.1 k <;> rw [hh] at hg <;> rw [hg] <;> exact ⟨rfl, h⟩
  · obtain ⟨m, rfl⟩ : ∃ m, op = m + 8 := ⟨op - 8, by omega⟩
    exact ⟨rfl, h⟩
theorem rel0 : Rel ([], [], []) ([], [], []) := ⟨⟨List.Perm.refl _, List.Pairwise.nil⟩, ⟨List.Perm.refl _, List.Pairwise.nil⟩, rfl⟩
end Go.Proofs.Ythooafgfpnedhaa.specsDo.sd
namespace Go.Proofs.Ythooafgfpnedhaa.specsDo.sd
open Go Go.Mini
/-! ### lists that are told: sameNums, spoil, Set, Map, Queue, wherever they lie -/
/-- A list as the program tells it. -/
def PL (v : AV) (b : Nat) (o : AObj) (L : List Int) : Prop := (v = .nilSlice ∧ L = [] ∧ Free o) ∨ (v = .slice b 0 L.length L.length ∧ o = .cells false (L.map uI))
section
variable {v u : AV} {b c : Nat} {o q : AObj} {L : List Int}
theorem PL.free (h : PL v b o L) : Free o := by
  rcases h with ⟨_, _, h⟩ | ⟨_, rfl⟩
  · exact h
  · exact freeU L
theorem PL.na (h : PL v b o L) : uu = junkOf v ∧ junkable v = true := by
  rcases h with ⟨rfl, _, _⟩ | ⟨rfl, _⟩
  · exact ⟨rfl, rfl⟩
  · exact ⟨rfl, rfl⟩
theorem qD_na (L : List Int) (b : Nat) : uu = junkOf (qD L b) ∧ junkable (qD L b) = true := by
  unfold qD
  split <;> exact ⟨rfl, rfl⟩
theorem rdS (b : Nat) (L : List Int) (hs : L.length < 1000000) : pq.RdU (.slice b 0 L.length L.length) b (.cells false (L.map uI)) L where
  len s := by simp only [lenA, t30]; rfl
  at_ i h := ⟨i, pq.idxSB h, fun s hb => pq.ldB h hb⟩
  small := hs
  jk := ⟨rfl, rfl⟩
theorem rdN (b : Nat) (o : AObj) : pq.RdU .nilSlice b o [] where
  len s := by simp only [lenA, t30]; rfl
  at_ i h := absurd h (Nat.not_lt_zero _)
  small := by decide
  jk := ⟨rfl, rfl⟩
theorem rdD (b : Nat) (h : QD L u b q) (hs : L.length < 1000000) : pq.RdU u b q L := by
  obtain ⟨h1, h2, h3⟩ := h
  by_cases hL : L = []
  · subst hL
    rw [show u = .nilSlice from h1]
    exact rdN b q
  · rw [h3 hL, show u = .osl b 0 L.length 1 from h1.trans (if_neg hL)]
    refine ⟨fun s => by simp only [lenA, t30]; rfl, fun i h => ⟨i, ?_, fun s hb => pq.ldB h hb⟩, hs, ⟨rfl, rfl⟩⟩
    have := idx_osl (b := b) (n := L.length) (i := i) t30 s22 h
    rw [Nat.mul_one] at this
    exact this
def piS (b c x : Nat) : Nat := if x = 0 then b else c
theorem sn_at {s : AS} (h1 : PL v b o L) (h2 : QD L u c q) (hbc : b ≠ c) (hb : s.get b = some o) (hc : s.get c = some q) (hs : L.length < 1000000) : Sound Try.prog (.call 16 [v, u] s) ⟨.ret, [.bool true], s⟩ := by
  obtain ⟨e1, fq, _⟩ := id h2
  have fo := h1.free
  have h2' : QD L (qD L 1) 1 q := ⟨rfl, h2.2⟩
  have R2 := rdD 1 h2' hs
  have fin_ : ∀ {v0 : AV}, Sound Try.prog (.call 16 [v0, qD L 1] ⟨⟨[(1, q), (0, o)], 2, none, []⟩, 2⟩) ⟨.ret, [.bool true], ⟨⟨[(1, q), (0, o)], 2, none, []⟩, 2⟩⟩ → v0.names (fun b => Nat.blt b 2) = true → v0.ren (piS b c) = v → Sound Try.prog (.call 16 [v, u] s) ⟨.ret, [.bool true], s⟩ := fun {v0} hS hn hr => by
    have h := Sound.put (bs0 := [(1, q), (0, o)]) hS noG (piS b c) [] s ⟨⟨show 1 < 2 by decide, fq.1, fq.nm _, rfl, by rw [fq.ren]; exact hc, .inl fq.1, fq.nm _⟩, ⟨show 0 < 2 by decide, fo.1, fo.nm _, rfl, by rw [fo.ren]; exact hb, .inl fo.1, fo.nm _⟩, trivial⟩
      (fun x hx y hy he => by
        have hx : x = 1 ∨ x = 0 := by simpa using hx
        have hy : y = 1 ∨ y = 0 := by simpa using hy
        rcases hx with rfl | rfl <;> rcases hy with rfl | rfl
        · rfl
        · exact absurd he.symm hbc
        · exact absurd he hbc
        · rfl) (show [1, 0].Nodup by decide) List.nodup_nil (fun b' hb' => by cases hb') (and2 hn (and2 (qD_nm _ (by decide)) rfl)) rfl
    have ea : rens (piS b c) [v0, qD L 1] = [v, u] := by
      show [v0.ren _, (qD L 1).ren _] = _
      rw [hr, qD_ren, e1]
      rfl
    rw [ea] at h
    have g1 : ∀ π, (objAt (⟨⟨[(1, q), (0, o)], 2, none, []⟩, 2⟩ : AS) 1).ren π = q := fun π => fq.ren π
    have g0 : ∀ π, (objAt (⟨⟨[(1, q), (0, o)], 2, none, []⟩, 2⟩ : AS) 0).ren π = o := fun π => fo.ren π
    simp only [List.map_cons, List.map_nil, setL, pushL, g1, g0] at h
    exact rec_same2 h hc hb
  rcases h1 with ⟨rfl, h, _⟩ | ⟨rfl, rfl⟩
  · exact fin_ (pq.sn_nil R2 (by rw [h]; exact rdN 0 o) h) rfl rfl
  · exact fin_ (pq.sn_sl R2 (rdS 0 L hs)) rfl rfl
theorem sp_at {s : AS} (h1 : PL v b o L) (hb : s.get b = some o) (hs : L.length < 1000000) : ∃ o', Free o' ∧ Sound Try.prog (.call 25 [v] s) ⟨.ret, [undefA], s.set b o'⟩ := by
  rcases h1 with ⟨rfl, _, fo⟩ | ⟨rfl, rfl⟩
  · refine ⟨o, fo, ?_⟩
    have h := Sound.put (bs0 := []) (runX_sound mixed none_sound sp_n0 trivial) noG (fun b => b) [] s trivial (fun b hb => by cases hb) List.nodup_nil List.nodup_nil (fun b hb => by cases hb) rfl rfl
    exact Sound.recast h (fun c => get_set_same hb c) (by show (setB s.h.bs b o).map (·.1) = s.h.bs.map (·.1); rw [setB_keys]) rfl rfl ⟨[b], rfl, fun c _ hn => get_set_ne (by simpa using hn)⟩
  · have e : ∀ d : Array Int, pq.ur d = d.toList.map uI := fun d => by simp [pq.ur, uI]
    have hp := pq.sp_all (n := L.length) hs (d := L.toArray) (by simp) none none []
    rw [e, e] at hp
    refine ⟨.cells false ((pq.spD L.toArray L.length 0).toList.map uI), freeU _, ?_⟩
    have h := Sound.put (bs0 := [(0, .cells false (L.map uI))]) (n0 := 1) (nx0 := 1) hp noG (fun _ => b) [] s ⟨⟨show 0 < 1 by decide, rfl, uI_nm _ _, rfl, by rw [(freeU L).ren]; exact hb, .inl rfl, uI_nm _ _⟩, trivial⟩
      (fun x hx y hy _ => by
        have hx : x = 0 := by simpa using hx
        have hy : y = 0 := by simpa using hy
        rw [hx, hy]) (show [0].Nodup by decide) List.nodup_nil (fun b' hb' => by cases hb') rfl rfl
    have g0 : ∀ (d : List Int) (π : Nat → Nat) (w : List Nat), (objAt (⟨⟨[(0, .cells false (d.map uI))], 1, none, w⟩, 1⟩ : AS) 0).ren π = .cells false (d.map uI) := fun d π w => (freeU d).ren π
    have g1 := g0 (pq.spD L.toArray L.length 0).toList
    simp only [List.map_cons, List.map_nil, setL, pushL] at h
    have h2 : Sound Try.prog (.call 25 [.slice b 0 L.length L.length] s) ⟨.ret, [undefA], s.set b (.cells false ((pq.spD L.toArray L.length 0).toList.map uI))⟩ := by
      rw [← g1 (pR 1 [] (fun _ => b) s.nx) ([0] ++ [])]
      exact h
    exact h2
end
/-! Queue -/
theorem app_fresh {s : AS} {R : List Int} {k n b2 bq : Nat} {ro : Bool} (hb : s.get b2 = some (.cells false [])) (hq : s.get bq = some (.cells ro (uc R))) (ho : k + n = R.length) (hn : n ≠ 0) (hk : n < 16777216) :
    appendA Try.prog s 30 30 (.slice b2 0 0 0) (.osl bq k n 1) = some (.osl s.nx 0 n 1, s.push (.cells false (uc (R.drop k)))) := by
  obtain ⟨elem, e2, i, z, size, u1, u2, u3, u4, u5, u0, u6, u7⟩ := rowT_inv (P := Try.prog) (t := 30) (t2 := 30) (n := 1) (by kernel_rfl)
  have hs0 : size = 0 := by omega
  subst hs0
  have hd : readA s bq k (n * 1) = some (uc (R.drop k)) := by
    simp only [readA, hq, uc, ← List.map_drop]
    refine takeN_all ?_
    simp
    omega
  have h0 : readA s b2 0 (0 * 1) = some [] := by simp [readA, hb, takeN]
  have ones : ∀ L : List Int, (uc L).all AV.one = true := fun L => by simp [uc, AV.one]
  have hs : small (0 + n) = true := by
    unfold small
    exact Nat.ble_eq_true_of_le (by omega)
  have hble : Nat.ble (0 + n) 0 = false := by
    cases hh : Nat.ble (0 + n) 0 with
    | false => rfl
    | true => have := Nat.le_of_ble_eq_true hh; omega
  have hf : firstA s 1 n (.osl bq k n 1) = some (uc (R.drop k)) := hd
  simp only [appendA, u1, u3, u4, u5, sliceLen, u6, u7, Nat.zero_add, hf, ones, Bool.and_self, Bool.not_true, Bool.false_eq_true, if_false]
  simp only [Nat.zero_add] at hble hs
  simp only [hble, hs, Bool.false_eq_true, if_false, if_true, h0, List.all_nil, List.nil_append]
section
variable {s : AS} {b bm : Nat} {t m : AV} (ht : Mp t) (hm : Mp m)
include ht hm
theorem que_none (hb : s.get b = some (.cells false [t, m, .nilSlice])) : Sound Try.prog (.call 12 [.ptr b 0] s) ⟨.ret, [.nilSlice], s⟩ := by
  obtain ⟨t0, c6, nt, rt⟩ := ht.small 6 (by decide)
  obtain ⟨q0, c7, nq, rq⟩ := hm.small 7 (by decide)
  have h := Sound.put (bs0 := [(4, .cells false [t0, q0, .nilSlice])]) (runX_sound mixed none_sound (qu_n0 t0 q0) trivial) noG (p4 b 0 c6 c7) [] s
    ⟨⟨show 4 < 8 by decide, rfl, and2 nt (and2 nq rfl), rfl, by show s.get b = some (.cells false [t0.ren _, q0.ren _, .nilSlice]); rw [rt _ rfl, rq _ rfl]; exact hb, .inl rfl, and2 (pN_8 nt) (and2 (pN_8 nq) rfl)⟩, trivial⟩
    (fun b hb c hc _ => by
      simp only [List.map_cons, List.map_nil, List.mem_cons, List.not_mem_nil, or_false] at hb hc
      rw [hb, hc]) (show [4].Nodup by decide) List.nodup_nil (fun b hb => by cases hb) rfl rfl
  have e4 : (objAt (⟨⟨[(4, .cells false [t0, q0, .nilSlice])], 1, none, []⟩, 8⟩ : AS) 4).ren (pR 8 [] (p4 b 0 c6 c7) s.nx) = .cells false [t, m, .nilSlice] := by
    show AObj.cells false [t0.ren _, q0.ren _, .nilSlice] = _
    rw [rt _ rfl, rq _ rfl]
  simp only [List.map_cons, List.map_nil, setL, pushL] at h
  rw [e4] at h
  exact rec_same1 h hb
theorem que_some {k n : Nat} {R : List Int} (hb : s.get b = some (.cells false [t, m, .osl bm k n 1])) (hq : s.get bm = some (.cells false (uc R))) (hne : b ≠ bm) (hk : k + n = R.length) (hs : n < 16777216) :
    Sound Try.prog (.call 12 [.ptr b 0] s) ⟨.ret, [.slice s.nx 0 n n], s.push (.cells false (uc (R.drop k)))⟩ := by
  obtain ⟨t0, c6, nt, rt⟩ := ht.small 6 (by decide)
  obtain ⟨q0, c7, nq, rq⟩ := hm.small 7 (by decide)
  have inj : ∀ b' ∈ [4, 5], ∀ c ∈ [4, 5], p4 b bm c6 c7 b' = p4 b bm c6 c7 c → b' = c := fun b' hb' c hc he => by
    simp only [List.mem_cons, List.not_mem_nil, or_false] at hb' hc
    rcases hb' with rfl | rfl <;> rcases hc with rfl | rfl
    · rfl
    · exact absurd he hne
    · exact absurd he.symm hne
    · rfl
  by_cases hn : n = 0
  · subst hn
    have hR : R.drop k = [] := List.drop_eq_nil_of_le (by omega)
    have h := Sound.put (bs0 := [(4, .cells false [t0, q0, .osl 5 k 0 1]), (5, .cells false (uc R))]) (runX_sound mixed none_sound (qu_z0 k (uc R) t0 q0) trivial) noG (p4 b bm c6 c7) [8] s
      ⟨⟨show 4 < 8 by decide, rfl, and2 nt (and2 nq rfl), rfl, by show s.get b = some (.cells false [t0.ren _, q0.ren _, .osl bm k 0 1]); rw [rt _ rfl, rq _ rfl]; exact hb, .inl rfl, and2 (pN_8 nt) (and2 (pN_8 nq) rfl)⟩,
        ⟨show 5 < 8 by decide, rfl, names_uc _ _, rfl, by show s.get bm = some (.cells false (rens _ _)); rw [rens_uc]; exact hq, .inl rfl, names_uc _ _⟩, trivial⟩
      inj (show [4, 5].Nodup by decide) (show [8].Nodup by decide) (fun b' hb' => by
        simp only [List.mem_singleton] at hb'
        subst hb'
        exact ⟨by decide, rfl, rfl⟩) rfl rfl
    have e4 : (AObj.cells false [t0, q0, .osl 5 k 0 1]).ren (pR 8 [8] (p4 b bm c6 c7) s.nx) = .cells false [t, m, .osl bm k 0 1] := by
      show AObj.cells false [t0.ren _, q0.ren _, .osl bm k 0 1] = _
      rw [rt _ rfl, rq _ rfl]
    simp only [List.map_cons, List.map_nil, setL, pushL, objAt, AS.get, getB, Nat.beq] at h
    simp only [Bool.false_eq_true, if_false, if_true, Option.getD_some] at h
    rw [e4] at h
    simp only [AObj.ren, rens_uc, rens] at h
    rw [hR]
    exact rec_push2 h hb hq
  · have h := Sound.put (bs0 := [(4, .cells false [t0, q0, .osl 5 k n 1]), (5, .cells false (uc R))]) (runX_sound mixed none_sound (pq.qu_so n 0 k 0 0 0 (.cells false (uc R)) (uc (R.drop k)) [] [] t0 q0 .nilSlice) ⟨app_fresh rfl rfl hk hn hs, sli9, trivial⟩) noG (p4 b bm c6 c7) [9] s
      ⟨⟨show 4 < 8 by decide, rfl, and2 nt (and2 nq rfl), rfl, by show s.get b = some (.cells false [t0.ren _, q0.ren _, .osl bm k n 1]); rw [rt _ rfl, rq _ rfl]; exact hb, .inl rfl, and2 (pN_8 nt) (and2 (pN_8 nq) rfl)⟩,
        ⟨show 5 < 8 by decide, rfl, names_uc _ _, rfl, by show s.get bm = some (.cells false (rens _ _)); rw [rens_uc]; exact hq, .inl rfl, names_uc _ _⟩, trivial⟩
      inj (show [4, 5].Nodup by decide) (show [9].Nodup by decide) (fun b' hb' => by
        simp only [List.mem_singleton] at hb'
        subst hb'
        exact ⟨by decide, rfl, names_uc _ _⟩) rfl rfl
    have e4 : (AObj.cells false [t0, q0, .osl 5 k n 1]).ren (pR 8 [9] (p4 b bm c6 c7) s.nx) = .cells false [t, m, .osl bm k n 1] := by
      show AObj.cells false [t0.ren _, q0.ren _, .osl bm k n 1] = _
      rw [rt _ rfl, rq _ rfl]
    simp only [List.map_cons, List.map_nil, setL, pushL, objAt, AS.get, getB, Nat.beq] at h
    simp only [Bool.false_eq_true, if_false, if_true, Option.getD_some] at h
    rw [e4] at h
    simp only [AObj.ren, rens_uc] at h
    exact rec_push2 h hb hq
end
/-! the three, of a state in 4, its maps and its queue wherever they lie -/
section
variable {s : AS} {S T : Option (List (Int × Int))} {Q : Option (List Int × Nat)} {m1 m2 m3 : AV} {b1 b2 b3 : Nat} {o1 o2 o3 : AObj} (is : MO S m1 b1 o1) (it : MO T m2 b2 o2) (iq : QO Q m3 b3 o3) (h4 : s.get 4 = some (.cells false [m1, m2, m3]))
include is it iq h4
theorem setC (h1 : s.get b1 = some o1) (n1 : 4 ≠ b1) (hn : ((S.getD []).map (·.1)).Nodup) (hl : (S.getD []).length ≤ 200) : ∃ v o, PL v s.nx o (keysOfM (S.getD [])) ∧ Sound Try.prog (.call 11 [.ptr 4 0] s) ⟨.ret, [v], s.push o⟩ := by
  cases S with
  | none =>
    obtain ⟨e1, _⟩ := is
    rw [e1] at h4
    exact ⟨.nilSlice, phO, .inl ⟨rfl, by simp [keysOfM], phFree⟩, Sound.ghost phO (set_none it.mp iq.ql h4)⟩
  | some es =>
    obtain ⟨e1, bn, ck, e2, eI⟩ := is
    rw [e1] at h4
    rw [e2] at h1
    have hl : es.length ≤ 200 := hl
    have hk := eI.ok hn (by omega)
    by_cases he : es = []
    · subst he
      exact ⟨.nilSlice, phO, .inl ⟨rfl, by simp [keysOfM], phFree⟩, Sound.ghost phO (set_zero it.mp iq.ql hk h4 h1 n1)⟩
    · refine ⟨_, _, .inr ⟨rfl, rfl⟩, ?_⟩
      have := set_some hk h4 h1 it.mp iq.ql n1 he hl
      rw [show (keysOfM ((some es).getD [])).length = es.length from keysOfM_len es]
      exact this
theorem mapC (hx : 4 < s.nx) (hb2 : b2 < s.nx) (h2 : s.get b2 = some o2) (n2 : 4 ≠ b2) (hn : ((T.getD []).map (·.1)).Nodup) (hl : (T.getD []).length ≤ 200) : ∃ v1 v2 o1 o2, PL v1 s.nx o1 (keysOfM (T.getD [])) ∧ PL v2 (s.nx + 1) o2 (valsOfM (T.getD [])) ∧ Sound Try.prog (.call 10 [.ptr 4 0] s) ⟨.ret, [.tuple [v1, v2]], (s.push o1).push o2⟩ := by
  have gp : ∀ c, c < s.nx → (s.push phO).get c = s.get c := fun c hc => by rw [get_push, if_neg (by omega)]
  cases T with
  | none =>
    obtain ⟨e1, _⟩ := it
    rw [e1] at h4
    refine ⟨.nilSlice, .slice (s.nx + 1) 0 0 0, phO, oE, .inl ⟨rfl, by simp [keysOfM], phFree⟩, .inr ⟨by simp [valsOfM, keysOfM], by simp [valsOfM, keysOfM, oE]⟩, ?_⟩
    exact Sound.phantom phO (map_none (s := s.push phO) is.mp iq.ql (by rw [gp 4 hx]; exact h4))
  | some es =>
    obtain ⟨e1, bn, ck, e2, eI⟩ := it
    rw [e1] at h4
    rw [e2] at h2
    have hl : es.length ≤ 200 := hl
    have hk := eI.ok hn (by omega)
    by_cases he : es = []
    · subst he
      exact ⟨.nilSlice, .slice (s.nx + 1) 0 0 0, phO, oE, .inl ⟨rfl, by simp [keysOfM], phFree⟩, .inr ⟨by simp [valsOfM, keysOfM], by simp [valsOfM, keysOfM, oE]⟩, Sound.phantom phO (map_zero (s := s.push phO) is.mp iq.ql hk (by rw [gp 4 hx]; exact h4) (by rw [gp b2 hb2]; exact h2) n2)⟩
    · have := map_some hk h4 h2 is.mp iq.ql n2 he hl
      refine ⟨_, _, _, _, .inr ⟨rfl, rfl⟩, .inr ⟨rfl, rfl⟩, ?_⟩
      rw [show (keysOfM ((some es).getD [])).length = es.length from keysOfM_len es, show (valsOfM ((some es).getD [])).length = es.length from by simp [valsOfM, keysOfM_len]]
      exact this
theorem queC (h3 : s.get b3 = some o3) (n3 : 4 ≠ b3) (hl : qlen Q < 16777216) : ∃ v o, PL v s.nx o (qv Q) ∧ Sound Try.prog (.call 12 [.ptr 4 0] s) ⟨.ret, [v], s.push o⟩ := by
  cases Q with
  | none =>
    obtain ⟨e1, _⟩ := iq
    rw [e1] at h4
    exact ⟨.nilSlice, phO, .inl ⟨rfl, rfl, phFree⟩, Sound.ghost phO (que_none is.mp it.mp h4)⟩
  | some z =>
    obtain ⟨R, k⟩ := z
    obtain ⟨e1, e2, hkk⟩ := iq
    rw [e1] at h4
    rw [e2] at h3
    have hl : R.length < 16777216 := hl
    refine ⟨_, _, .inr ⟨rfl, rfl⟩, ?_⟩
    have := que_some is.mp it.mp h4 h3 n3 (show k + (R.length - k) = R.length by omega) (by omega)
    rw [show (qv (some (R, k))).length = R.length - k from by simp [qv]]
    exact this
end
/-! both states say the same -/
section
variable {m l : List Pr} (h : RelM m l)
include h
theorem len_rel : m.length = l.length := h.perm.length_eq
theorem srt_keys : (l.map (·.1)).Pairwise (· < ·) := List.pairwise_map.2 h.srt
theorem nodup_rel : (m.map (·.1)).Nodup := by
  have h1 : (l.map (·.1)).Nodup := (srt_keys h).imp fun {a b} (hlt : a < b) => Int.ne_of_lt hlt
  exact (h.perm.map (·.1)).nodup_iff.2 h1
theorem keys_rel : keysOfM m = l.map (·.1) := by
  unfold keysOfM
  rw [sort_perm (h.perm.map fun p : Pr => p.1)]
  refine List.mergeSort_of_pairwise ((srt_keys h).imp fun {a b} (hlt : a < b) => ?_)
  simp only [decide_eq_true_eq]
  omega
theorem vals_rel : valsOfM m = l.map (·.2) := by
  unfold valsOfM
  rw [keys_rel h, List.map_map]
  refine List.map_congr_left fun p hp => ?_
  show (getM m p.1).getD 0 = p.2
  have hh : hasL l p.1 = true := by
    cases hh : hasL l p.1 with
    | true => rfl
    | false => exact absurd hp (has_false h.srt hh p.2)
  rw [h.get, hh]
  exact srtK_one h.srt (has_true hh) hp
end
end Go.Proofs.Ythooafgfpnedhaa.specsDo.sd
namespace Go.Proofs.Ythooafgfpnedhaa.specsDo.sd
open Go Go.Mini
/-! ### SpecsDo: slots, pieces -/
def T8 (lA x33 : AV) (i : Nat) : List AV := [lA, uu, uu, .ptr 4 0, .ptr 8 0, .int .i64 (Int.ofNat i)] ++ List.replicate 27 uu ++ [x33] ++ List.replicate 84 uu
noncomputable def d0 : Code := bodyOf Try.prog 8
noncomputable def dc0 : Code := sL d0
noncomputable def dc1 : Code := sL (sR d0)
noncomputable def dc2 : Code := sL (sR (sR d0))
noncomputable def dc3 : Code := sL (sR (sR (sR d0)))
noncomputable def dc4 : Code := sL (sL (sR (sR (sR (sR d0)))))
noncomputable def dsuf : Code := sR (sR (sR (sR (sR d0))))
theorem d0_eq : d0 = .seq dc0 (.seq dc1 (.seq dc2 (.seq dc3 (.seq (.seq dc4 (.block 0 (.loop (loopAt Try.prog 8 0)))) dsuf)))) := by kernel_rfl
end Go.Proofs.Ythooafgfpnedhaa.specsDo.sd
