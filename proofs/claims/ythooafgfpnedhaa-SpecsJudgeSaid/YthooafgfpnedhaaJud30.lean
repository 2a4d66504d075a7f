/- find, with and without, of rows of pairs. Conditions: those that each theorem names, and no others. -/
import Derived.Test.YthooafgfpnedhaaJud29
namespace Go.Proofs.Ythooafgfpnedhaa.specsJudge
open Go Go.Mini
/-! ### the document's rows of pairs: find, with, without -/
abbrev Pr : Type := Int × Int
def pc (p : Pr) : List AV := [.int .u64 p.1, .int .u64 p.2]
abbrev pr (l : List Pr) : List AV := rowsOf pc l
theorem pc_len (p : Pr) : (pc p).length = 2 := rfl
theorem pr_len (l : List Pr) : (pr l).length = l.length * 2 := rowsOf_len pc_len l
theorem pr_names (p : Nat → Bool) : ∀ l : List Pr, namess p (pr l) = true
  | [] => rfl
  | x :: l => by
    show namess p (AV.int .u64 x.1 :: AV.int .u64 x.2 :: rowsOf pc l) = true
    simp only [namess, AV.names, Bool.true_and]
    exact pr_names p l
theorem pr_one : ∀ l : List Pr, (pr l).all AV.one = true
  | [] => rfl
  | x :: l => by
    show (AV.int .u64 x.1 :: AV.int .u64 x.2 :: rowsOf pc l).all AV.one = true
    simp only [List.all_cons, pr_one l, Bool.and_true]
    rfl
theorem t38 : Try.prog.underlying 38 = some (.slice 87) := by kernel_rfl
theorem s87 : sizeA Try.prog 87 = some 2 := by kernel_rfl
theorem r38 : rowT Try.prog 38 38 2 = true := by kernel_rfl
/-- Where a key stands, or would. -/
def posL : List Pr → Int → Nat
  | [], _ => 0
  | p :: l, k => if p.1 < k then posL l k + 1 else 0
def hasL (l : List Pr) (k : Int) : Bool := match l[posL l k]? with
  | some p => p.1 == k
  | none => false
theorem posL_le : ∀ (l : List Pr) (k : Int), posL l k ≤ l.length
  | [], _ => Nat.le_refl _
  | p :: l, k => by
    show (if p.1 < k then posL l k + 1 else 0) ≤ l.length + 1
    split
    · have := posL_le l k
      omega
    · omega
theorem posL_lt : ∀ (l : List Pr) (k : Int) (i : Nat), i < posL l k → ∃ p, l[i]? = some p ∧ p.1 < k
  | [], _, i, h => absurd h (Nat.not_lt_zero _)
  | p :: l, k, i, h => by
    have h : i < (if p.1 < k then posL l k + 1 else 0) := h
    split at h
    · rename_i hp
      cases i with
      | zero => exact ⟨p, rfl, hp⟩
      | succ i => exact posL_lt l k i (by omega)
    · exact absurd h (Nat.not_lt_zero _)
theorem posL_at : ∀ (l : List Pr) (k : Int), posL l k < l.length → ∃ p, l[posL l k]? = some p ∧ ¬ p.1 < k
  | [], _, h => absurd h (Nat.not_lt_zero _)
  | p :: l, k, h => by
    have h : (if p.1 < k then posL l k + 1 else 0) < l.length + 1 := h
    show ∃ q, (p :: l)[if p.1 < k then posL l k + 1 else 0]? = some q ∧ _
    by_cases hp : p.1 < k
    · rw [if_pos hp] at h ⊢
      exact posL_at l k (by omega)
    · rw [if_neg hp]
      exact ⟨p, rfl, hp⟩
theorem ld_key {l : List Pr} {i : Nat} {p : Pr} (h : l[i]? = some p) (s : AS) {b : Nat} {ro : Bool} (hs : s.get b = some (.cells ro (pr l))) : (Qst.ld 22 s (.ptr b (i * 2 + 0)) (.int .u64 p.1)).ok Try.prog :=
  ld_rowCell (f := pc) (n := 2) (i := 0) pc_len a22 hs h rfl
theorem ld_elt {l : List Pr} {i : Nat} {p : Pr} (h : l[i]? = some p) (s : AS) {b : Nat} {ro : Bool} (hs : s.get b = some (.cells ro (pr l))) : (Qst.ld 22 s (.ptr b (i * 2 + 1)) (.int .u64 p.2)).ok Try.prog :=
  ld_rowCell (f := pc) (n := 2) (i := 1) pc_len a22 hs h rfl
theorem ln_osl38 (s : AS) (b n : Nat) : (Qst.ln 38 s (.osl b 0 n 2) (.int .i64 (Int.ofNat n))).ok Try.prog := by
  simp only [Qst.ok, lenA, t38]
  rfl
abbrev bs0 (l : List Pr) : List (Nat × AObj) := [(0, .cells true (pr l))]
theorem find_loop (l : List Pr) (hl : l.length ≤ 1000) (k : Int) : ∀ (m i : Nat), posL l k - i = m → i ≤ posL l k → SoundL Try.prog [] (.loop (loopAt Try.prog 31 0)) (TF (.osl 0 0 l.length 2) k i) (bs0 l) 1 1 (.exit 0) (TF (.osl 0 0 l.length 2) k (posL l k)) (bs0 l) := by
  intro m
  have hp := posL_le l k
  induction m with
  | zero =>
    intro i hm hi
    have : i = posL l k := by omega
    subst this
    by_cases hlt : posL l k < l.length
    · obtain ⟨p, h1, h2⟩ := posL_at l k hlt
      refine SoundL.stop (SoundL.plain (runX_sound mixed none_sound (fd_stop (.osl 0 0 l.length 2) .nilFunc .nilFunc .nilFunc .nilFunc 0 l.length (posL l k) 0 (posL l k * 2) 0 false k 0 p.1 0 0 0 0 0 0 0 0 0 .dead .dead .dead (pr l) []) ⟨ln_osl38 _ _ _, ltq _ _ true (by simpa using hlt), idx_osl t38 s87 hlt, ld_key h1 _ rfl, bq (decide_eq_false h2), trivial⟩) ?_) (by simp)
      unfold TF
      repeat (first | exact rfl | refine ⟨_, _, rfl, ?_, ?_⟩ | exact .inr ⟨rfl, rfl⟩ | exact .inl ⟨rfl, rfl⟩ | exact see_same _)
    · refine SoundL.stop (SoundL.plain (runX_sound mixed none_sound (fd_end (.osl 0 0 l.length 2) .nilFunc .nilFunc .nilFunc .nilFunc 0 l.length (posL l k) 0 0 0 false k 0 0 0 0 0 0 0 0 0 0 0 .dead .dead .dead (pr l) []) ⟨ln_osl38 _ _ _, ltq _ _ false (by simpa using hlt), trivial⟩) ?_) (by simp)
      unfold TF
      repeat (first | exact rfl | refine ⟨_, _, rfl, ?_, ?_⟩ | exact .inr ⟨rfl, rfl⟩ | exact .inl ⟨rfl, rfl⟩ | exact see_same _)
  | succ m ih =>
    intro i hm hi
    have hlt : i < posL l k := by omega
    obtain ⟨p, h1, h2⟩ := posL_lt l k i hlt
    refine SoundL.next (SoundL.plain (runX_sound mixed none_sound (fd_go (.osl 0 0 l.length 2) .nilFunc .nilFunc .nilFunc .nilFunc 0 l.length i 0 (i * 2) 0 false k 0 p.1 0 0 0 0 0 0 0 0 0 .dead .dead .dead (pr l) []) ⟨ln_osl38 _ _ _, ltq _ _ true (by simp; omega), idx_osl t38 s87 (by omega), ld_key h1 _ rfl, bq (decide_eq_true h2), wq _ rfl (by omega), trivial⟩) ?_) (ih (i + 1) (by omega) (by omega))
    unfold TF
    repeat (first | exact rfl | refine ⟨_, _, rfl, ?_, ?_⟩ | exact .inr ⟨rfl, rfl⟩ | exact .inl ⟨rfl, rfl⟩ | exact see_same _)
theorem put_val {f : FuncId} {args : List AV} {row : List AV} {v : AV} {s1 : AS} (h : Sound Try.prog (.call f args (canS [] row 1 1)) ⟨.ret, [v], s1⟩) (hrow : namess (fun _ => false) row = true) (ha : namess (fun b => Nat.blt b 1) args = true) (hv : v.names (fun _ => false) = true) {s : AS} {ro : Bool} {b0 : Nat} (h0 : s.get b0 = some (.cells ro row)) :
    Sound Try.prog (.call f (rens (fun _ => b0) args) s) ⟨.ret, [v], s⟩ := by
  have := Sound.putR (bs0 := []) h noG (fun _ => b0) [] s hrow ⟨ro, h0⟩ (by decide) trivial (fun b hb => by cases hb) (fun b hb => by cases hb) List.nodup_nil List.nodup_nil (fun b hb => by cases hb) ha (names_sub (fun _ h => by cases h) hv)
  rw [show v.ren _ = v from by rw [ren_congr (p := fun _ => false) (π' := fun b => b) (fun _ h => by cases h) hv, ren_id]] at this
  exact this
/-- A row of pairs as it lies in block b: nil, or all of the block. -/
def lv (l : List Pr) (b : Nat) : AV := if l = [] then .nilSlice else .osl b 0 l.length 2
theorem find_small {l : List Pr} (_ : l ≠ []) (hl : l.length ≤ 1000) (k : Int) : ∃ s1, Sound Try.prog (.call 31 [.osl 0 0 l.length 2, .int .u64 k] (canS [] (pr l) 1 1)) ⟨.ret, [.tuple [.int .i64 (Int.ofNat (posL l k)), .bool (hasL l k)]], s1⟩ := by
  have hp := posL_le l k
  have lp := find_loop l hl k _ 0 rfl (Nat.zero_le _) none none []
  have lp' : Sound Try.prog (.code (.loop (loopAt Try.prog 31 0)) [.osl 0 0 l.length 2, .int .u64 k, .tuple [], .tuple [], .int .i64 (Int.ofNat 0), .bool false, .int .i64 (Int.ofNat 0), .tuple [], .tuple [], .tuple [], .tuple [], .tuple [], .tuple [], .tuple [], .tuple [], .tuple [], .tuple [], .tuple [], .tuple [], .tuple [], .tuple [], .tuple [], .tuple [], .tuple [], .tuple [], .tuple [], .tuple [], .tuple [], .tuple [], .tuple [], .tuple [], .tuple [], .tuple [], .tuple [], .tuple [], .tuple []] (canS [] (pr l) 1 1)) ⟨.exit 0, TF (.osl 0 0 l.length 2) k (posL l k), canS [] (pr l) 1 1⟩ := by
    refine Sound.enter lp ?_
    unfold TF
    repeat (first | exact rfl | refine ⟨_, _, rfl, ?_, ?_⟩ | exact .inr ⟨rfl, rfl⟩ | exact .inl ⟨rfl, rfl⟩ | exact see_same _)
  by_cases hlt : posL l k < l.length
  · obtain ⟨p, h1, h2⟩ := posL_at l k hlt
    have hh : hasL l k = (p.1 == k) := by
      unfold hasL
      rw [h1]
    rw [hh]
    exact ⟨_, runX_sound mixed none_sound (fd_in .nilFunc .nilFunc .nilFunc .nilFunc .nilFunc 0 l.length (posL l k) 0 (posL l k * 2) 0 (p.1 == k) k 0 p.1 0 0 0 0 0 0 0 0 0 .dead .dead .dead (pr l) []) ⟨lp', ltq _ _ true (by simpa using hlt), idx_osl t38 s87 hlt, ld_key h1 _ rfl, bq rfl, trivial⟩⟩
  · have hh : hasL l k = false := by
      unfold hasL
      rw [List.getElem?_eq_none (by omega)]
    rw [hh]
    exact ⟨_, runX_sound mixed none_sound (fd_out .nilFunc .nilFunc .nilFunc .nilFunc .nilFunc 0 l.length (posL l k) 0 0 0 false k 0 0 0 0 0 0 0 0 0 0 0 .dead .dead .dead (pr l) []) ⟨lp', ltq _ _ false (by simpa using hlt), trivial⟩⟩
/-- find, wherever the row lies. -/
theorem findC {l : List Pr} (hl : l.length ≤ 1000) (k : Int) {s : AS} {b : Nat} (h : l ≠ [] → s.get b = some (.cells false (pr l))) : Sound Try.prog (.call 31 [lv l b, .int .u64 k] s) ⟨.ret, [.tuple [.int .i64 (Int.ofNat (posL l k)), .bool (hasL l k)]], s⟩ := by
  by_cases hne : l = []
  · subst hne
    exact put_val0 (runX_sound mixed none_sound (fd_nil .nilFunc .nilFunc .nilFunc .nilFunc .nilFunc 0 0 0 0 0 0 false k 0 0 0 0 0 0 0 0 0 0 0 .dead .dead .dead [] []) trivial) rfl rfl s
  · obtain ⟨s1, hs⟩ := find_small hne hl k
    have := put_val hs (pr_names _ l) rfl rfl (h hne)
    unfold lv
    rw [if_neg hne]
    exact this
theorem first_one {s : AS} {b : Nat} {ro : Bool} {c2 : Nat} {p : Pr} (h : s.get b = some (.cells ro (pc p))) : firstA s 2 1 (.slice b 0 1 c2) = some (pr [p]) := by
  simp only [firstA, readA, h]
  rfl
theorem first_onel {s : AS} {b : Nat} {ro : Bool} {p : Pr} (h : s.get b = some (.cells ro (pc p))) : firstA s 2 1 (.osl b 0 1 2) = some (pr [p]) := by
  simp only [firstA, readA, h]
  rfl
/-- with, wherever the row lies. -/
theorem withC {l : List Pr} (hl : l.length ≤ 1000) (p : Pr) {i : Nat} (hi : i ≤ l.length) {s : AS} {b : Nat} (h : l ≠ [] → s.get b = some (.cells false (pr l))) :
    Sound Try.prog (.call 32 [lv l b, .int .i64 (Int.ofNat i), .agg [.int .u64 p.1, .int .u64 p.2]] s) ⟨.ret, [.osl s.nx 0 (l.length + 1) 2], s.push (.cells false (pr (l.take i ++ p :: l.drop i)))⟩ := by
  by_cases hne : l = []
  · subst hne
    have : i = 0 := by simpa using hi
    subst this
    exact put_osl0 (runX_sound mixed none_sound (wi_0 .nilFunc .nilFunc .nilFunc .nilFunc .nilFunc 0 0 0 0 0 0 false p.1 p.2 0 0 0 0 0 0 0 0 0 0 .dead .dead .dead [] []) trivial) (by decide) rfl rfl rfl s
  · have hlen : 0 < l.length := List.length_pos_iff.2 hne
    have ev : lv l b = .osl b 0 l.length 2 := if_neg hne
    rw [ev]
    have fin : ∀ {b1 : Nat} {s1 : AS}, Sound Try.prog (.call 32 [.osl 0 0 l.length 2, .int .i64 (Int.ofNat i), .agg [.int .u64 p.1, .int .u64 p.2]] (canS [] (pr l) 1 1)) ⟨.ret, [.osl b1 0 (l.length + 1) 2], s1⟩ → 1 ≤ b1 → s1.get b1 = some (.cells false (pr (l.take i ++ p :: l.drop i))) →
        Sound Try.prog (.call 32 [.osl b 0 l.length 2, .int .i64 (Int.ofNat i), .agg [.int .u64 p.1, .int .u64 p.2]] s) ⟨.ret, [.osl s.nx 0 (l.length + 1) 2], s.push (.cells false (pr (l.take i ++ p :: l.drop i)))⟩ :=
      fun h1 h2 h3 => put_osl h1 h2 h3 (pr_names _ _) (pr_names _ _) rfl (h hne)
    have sp : pr (l.take i ++ p :: l.drop i) = pr (l.take i ++ [p]) ++ pr (l.drop i) := by
      show rowsOf pc _ = rowsOf pc _ ++ rowsOf pc _
      rw [← rowsOf_append, List.append_assoc]
      rfl
    have e0 : ∀ {s : AS}, s.get 0 = some (.cells true (pr l)) → firstA s 2 i (.osl 0 0 i 2) = some (pr (l.take i)) := fun h => first_take pc_len h hi
    have e1 : ∀ {s : AS}, s.get 0 = some (.cells true (pr l)) → firstA s 2 (l.length - i) (.osl 0 (i * 2) (l.length - i) 2) = some (pr (l.drop i)) := fun h => first_drop pc_len h hi
    have hd : (l.take i).length = i := by rw [List.length_take, Nat.min_eq_left hi]
    by_cases h0 : i = 0
    · subst h0
      refine fin (runX_sound mixed none_sound (wi_l .nilFunc .nilFunc .nilFunc .nilFunc .nilFunc 0 l.length 0 0 0 0 false p.1 p.2 0 0 0 0 0 0 0 0 0 0 .dead (.cells false (pr (p :: l))) .dead (pr l) []) ⟨sli_to t38 s87 hi, ?_, app_n0 r38 rfl (e0 rfl) rfl rfl, ?_, trivial⟩) (by decide) rfl
      · have := sli_from (b := 0) t38 s87 hi
        rw [Nat.zero_mul, Nat.sub_zero] at this
        exact this
      · have := app_ox (s := ⟨⟨[(3, AObj.cells false (pc p)), (2, AObj.cells false (pc p)), (1, AObj.cells false (pc p)), (0, AObj.cells true (pr l))], 4, none, []⟩, 4⟩) (b := 3) (R := pr [p]) r38 (y := .osl 0 0 l.length 2) rfl (by have := e1 (s := ⟨⟨[(3, AObj.cells false (pc p)), (2, AObj.cells false (pc p)), (1, AObj.cells false (pc p)), (0, AObj.cells true (pr l))], 4, none, []⟩, 4⟩) rfl; rw [Nat.zero_mul, Nat.sub_zero] at this; exact this) (pr_one _) rfl (k := 1) rfl rfl (by omega) (by omega)
        rw [Nat.add_comm 1] at this
        exact this
    · have app1 : ∀ {o2 o1 : AObj} , (Qst.app ⟨⟨[(2, o2), (1, o1), (0, AObj.cells true (pr l))], 3, none, []⟩, 3⟩ 38 38 .nilSlice (.osl 0 0 i 2) (.osl 3 0 i 2) ⟨⟨[(3, .cells false (pr (l.take i))), (2, o2), (1, o1), (0, AObj.cells true (pr l))], 4, none, []⟩, 4⟩).ok Try.prog := fun {_ _} => app_nx r38 rfl (e0 rfl) (pr_one _) h0 (by omega)
      have app2 : (Qst.app ⟨⟨[(3, .cells false (pr (l.take i))), (2, .cells false (pc p)), (1, .cells false (pc p)), (0, AObj.cells true (pr l))], 4, none, []⟩, 4⟩ 38 38 (.osl 3 0 i 2) (.slice 2 0 1 1) (.osl 4 0 (i + 1) 2) ⟨⟨[(4, .cells false (pr (l.take i) ++ pr [p])), (3, .dead), (2, .cells false (pc p)), (1, .cells false (pc p)), (0, AObj.cells true (pr l))], 5, none, [3]⟩, 5⟩).ok Try.prog :=
        app_ox r38 rfl (first_one rfl) rfl rfl (by rw [pr_len, hd]) (pr_one _) (by decide) (by omega)
      have t12 : pr (l.take i) ++ pr [p] = pr (l.take i ++ [p]) := (rowsOf_append _ _).symm
      have f1 := sli_from (b := 0) t38 s87 hi
      by_cases hlt : i < l.length
      · refine fin (runX_sound mixed none_sound (wi_m .nilFunc .nilFunc .nilFunc .nilFunc .nilFunc 0 l.length i (l.length - i) 0 (i * 2) false p.1 p.2 0 0 0 0 0 0 0 0 0 0 (.cells false (pr (l.take i))) (.cells false (pr (l.take i) ++ pr [p])) (.cells false (pr (l.take i ++ p :: l.drop i))) (pr l) []) ⟨sli_to t38 s87 hi, f1, app1, app2, ?_, trivial⟩) (by decide) rfl
        have := app_ox (s := ⟨⟨[(4, AObj.cells false (pr (l.take i) ++ pr [p])), (3, .dead), (2, AObj.cells false (pc p)), (1, AObj.cells false (pc p)), (0, AObj.cells true (pr l))], 5, none, [3]⟩, 5⟩) (b := 4) (R := pr (l.take i) ++ pr [p]) r38 (y := .osl 0 (i * 2) (l.length - i) 2) rfl (e1 rfl) (pr_one _) rfl (k := i + 1) (by rw [t12, pr_len, List.length_append, hd]; rfl) (by rw [t12]; exact pr_one _) (by omega) (by omega)
        rw [show i + 1 + (l.length - i) = l.length + 1 from by omega, t12, ← sp] at this
        rw [t12]
        exact this
      · have hie : i = l.length := by omega
        have hdr : l.drop i = [] := List.drop_eq_nil_of_le (by omega)
        rw [show l.length - i = 0 from by omega] at f1
        have e1' := @e1
        rw [show l.length - i = 0 from by omega] at e1'
        have key := runX_sound mixed none_sound (wi_e .nilFunc .nilFunc .nilFunc .nilFunc .nilFunc 0 l.length i 0 0 (i * 2) false p.1 p.2 0 0 0 0 0 0 0 0 0 0 (.cells false (pr (l.take i))) (.cells false (pr (l.take i) ++ pr [p])) .dead (pr l) []) ⟨sli_to t38 s87 hi, f1, app1, app2, app_o0 r38 rfl (e1' rfl) (pr_one _) rfl, trivial⟩
        rw [show i + 1 = l.length + 1 from by omega] at key
        refine fin key (by decide) ?_
        rw [sp, hdr, show pr ([] : List Pr) = [] from rfl, List.append_nil, ← t12]
        rfl
/-- without, wherever the row lies. -/
theorem withoutC {l : List Pr} (hl : l.length ≤ 1000) {i : Nat} (hi : i < l.length) {s : AS} {b : Nat} (h : l ≠ [] → s.get b = some (.cells false (pr l))) :
    (l.take i ++ l.drop (i + 1) ≠ [] ∧ Sound Try.prog (.call 34 [lv l b, .int .i64 (Int.ofNat i)] s) ⟨.ret, [.osl s.nx 0 (l.take i ++ l.drop (i + 1)).length 2], s.push (.cells false (pr (l.take i ++ l.drop (i + 1))))⟩) ∨
    (l.take i ++ l.drop (i + 1) = [] ∧ Sound Try.prog (.call 34 [lv l b, .int .i64 (Int.ofNat i)] s) ⟨.ret, [.nilSlice], s⟩) := by
  have hne : l ≠ [] := fun e => by subst e; simp at hi
  have ev : lv l b = .osl b 0 l.length 2 := if_neg hne
  rw [ev]
  have hd : (l.take i).length = i := by rw [List.length_take, Nat.min_eq_left (by omega)]
  have hd2 : (l.drop (i + 1)).length = l.length - (i + 1) := List.length_drop
  have e0 : ∀ {s : AS}, s.get 0 = some (.cells true (pr l)) → firstA s 2 i (.osl 0 0 i 2) = some (pr (l.take i)) := fun h => first_take pc_len h (by omega)
  have e1 : ∀ {s : AS}, s.get 0 = some (.cells true (pr l)) → firstA s 2 (l.length - (i + 1)) (.osl 0 ((i + 1) * 2) (l.length - (i + 1)) 2) = some (pr (l.drop (i + 1))) := fun h => first_drop pc_len h (by omega)
  have f0 : (Qst.sli 38 (.osl 0 0 l.length 2) none (some (.int .i64 (Int.ofNat i))) none (.osl 0 0 i 2)).ok Try.prog := sli_to t38 s87 (by omega)
  have f1 : (Qst.sli 38 (.osl 0 0 l.length 2) (some (.int .i64 (Int.ofNat (i + 1)))) none none (.osl 0 ((i + 1) * 2) (l.length - (i + 1)) 2)).ok Try.prog := sli_from t38 s87 (by omega)
  have w1 := wq (n := i + 1) (Int.ofNat (i + 1)) rfl (by omega)
  have sp : pr (l.take i ++ l.drop (i + 1)) = pr (l.take i) ++ pr (l.drop (i + 1)) := rowsOf_append _ _
  have fin : ∀ {b1 m : Nat} {s1 : AS}, l.take i ++ l.drop (i + 1) ≠ [] → m = (l.take i ++ l.drop (i + 1)).length → Sound Try.prog (.call 34 [.osl 0 0 l.length 2, .int .i64 (Int.ofNat i)] (canS [] (pr l) 1 1)) ⟨.ret, [.osl b1 0 m 2], s1⟩ → 1 ≤ b1 → s1.get b1 = some (.cells false (pr (l.take i ++ l.drop (i + 1)))) →
      Sound Try.prog (.call 34 [.osl b 0 l.length 2, .int .i64 (Int.ofNat i)] s) ⟨.ret, [.osl s.nx 0 (l.take i ++ l.drop (i + 1)).length 2], s.push (.cells false (pr (l.take i ++ l.drop (i + 1))))⟩ := fun hn hm h1 h2 h3 => by
    rw [← hm]
    exact put_osl h1 h2 h3 (pr_names _ _) (pr_names _ _) rfl (h hne)
  by_cases h0 : i = 0
  · subst h0
    rw [show (0 + 1) = 1 from rfl] at *
    by_cases hn : l.drop 1 = []
    · have hn' : l.take 0 ++ l.drop 1 = [] := by rw [hn]; rfl
      have hz : l.length - 1 = 0 := by rw [← hd2, hn]; rfl
      rw [hz] at f1
      have e1' := @e1
      rw [hz] at e1'
      exact .inr ⟨hn', put_val (runX_sound mixed none_sound (wo_0 .nilFunc .nilFunc .nilFunc .nilFunc .nilFunc 0 l.length 0 0 0 (1 * 2) false 0 0 0 0 0 0 0 0 0 0 0 0 .dead .dead .dead (pr l) []) ⟨f0, w1, f1, app_n0 r38 rfl (e0 rfl) rfl rfl, app_n0 r38 rfl (e1' rfl) (pr_one _) rfl, trivial⟩) (pr_names _ _) rfl rfl (h hne)⟩
    · have hz : l.length - 1 ≠ 0 := fun e => hn (List.eq_nil_of_length_eq_zero (by rw [hd2, e]))
      refine .inl ⟨by simpa using hn, fin (by simpa using hn) (by simp) (runX_sound mixed none_sound (wo_l .nilFunc .nilFunc .nilFunc .nilFunc .nilFunc 0 l.length 0 (l.length - 1) 0 (1 * 2) false 0 0 0 0 0 0 0 0 0 0 0 0 (.cells false (pr (l.drop 1))) .dead .dead (pr l) []) ⟨f0, w1, f1, app_n0 r38 rfl (e0 rfl) rfl rfl, app_nx r38 rfl (e1 rfl) (pr_one _) hz (by omega), trivial⟩) (by decide) rfl⟩
  · have hnn : l.take i ++ l.drop (i + 1) ≠ [] := fun e => h0 (by
      have := congrArg List.length e
      rw [List.length_append, hd] at this
      simp at this
      omega)
    have hlen : (l.take i ++ l.drop (i + 1)).length = i + (l.length - (i + 1)) := by rw [List.length_append, hd, hd2]
    have app1 : (Qst.app ⟨⟨[(0, AObj.cells true (pr l))], 1, none, []⟩, 1⟩ 38 38 .nilSlice (.osl 0 0 i 2) (.osl 1 0 i 2) ⟨⟨[(1, .cells false (pr (l.take i))), (0, AObj.cells true (pr l))], 2, none, []⟩, 2⟩).ok Try.prog := app_nx r38 rfl (e0 rfl) (pr_one _) h0 (by omega)
    by_cases hn : l.drop (i + 1) = []
    · have hz : l.length - (i + 1) = 0 := by rw [← hd2, hn]; rfl
      rw [hz] at f1
      have e1' := @e1
      rw [hz] at e1'
      refine .inl ⟨hnn, fin hnn (by rw [hlen, hz]; rfl) (runX_sound mixed none_sound (wo_e .nilFunc .nilFunc .nilFunc .nilFunc .nilFunc 0 l.length i 0 0 ((i + 1) * 2) false 0 0 0 0 0 0 0 0 0 0 0 0 (.cells false (pr (l.take i))) .dead .dead (pr l) []) ⟨f0, w1, f1, app1, app_o0 r38 rfl (e1' rfl) (pr_one _) rfl, trivial⟩) (by decide) ?_⟩
      rw [hn, List.append_nil]
      rfl
    · have hz : l.length - (i + 1) ≠ 0 := fun e => hn (List.eq_nil_of_length_eq_zero (by rw [hd2, e]))
      refine .inl ⟨hnn, fin hnn hlen.symm (runX_sound mixed none_sound (wo_m .nilFunc .nilFunc .nilFunc .nilFunc .nilFunc 0 l.length i (l.length - (i + 1)) 0 ((i + 1) * 2) false 0 0 0 0 0 0 0 0 0 0 0 0 (.cells false (pr (l.take i))) (.cells false (pr (l.take i ++ l.drop (i + 1)))) .dead (pr l) []) ⟨f0, w1, f1, app1, ?_, trivial⟩) (by decide) rfl⟩
      rw [sp]
      exact app_ox r38 rfl (e1 rfl) (pr_one _) rfl (by rw [pr_len, hd]) (pr_one _) hz (by omega)
end Go.Proofs.Ythooafgfpnedhaa.specsJudge
