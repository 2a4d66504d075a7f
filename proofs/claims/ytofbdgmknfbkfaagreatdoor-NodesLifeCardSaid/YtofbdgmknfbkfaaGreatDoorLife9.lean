/- The last step of a Retire; the sweep: its first loop. Conditions: those that each theorem names, and no others. -/
import Derived.Test.YtofbdgmknfbkfaaGreatDoorLife8
namespace Go.Proofs.YtofbdgmknfbkfaaGreatDoor.nodesLife
open Go Go.Mini
/-! ### a Retire's last step: the entry is added; a scan begins, if it is due -/
def ent6 (z : Int) (g b e r : Nat) : List AV := [i64 z, u32 g, .bool false, u64 b, u64 e, u64 r]
theorem rmay_run (z : Int) (g b e r : Nat) : (runX Tryz.prog none_ 60 112 (.call 112 [.agg (ent6 z g b e r)] (startS Tryz.prog [])) [.val 112 1 9 (.bool true), .val 112 1 14 (.bool true), .val 112 1 20 (.bool true)]).map (fun x => (x.1.ts, x.2.2)) = some ([.bool true], [.eqv { h := { bs := [(2, .cells false [.int .i64 z, .int .u32 (Int.ofNat g), .bool false, .int .u64 (Int.ofNat b), .int .u64 (Int.ofNat e), .int .u64 (Int.ofNat r)])], len := 1, esc := none, wr := [] }, nx := 3 } 74 [.int .i64 z, .int .u32 (Int.ofNat g), .bool false] [.int .i64 z, .int .u32 (Int.ofNat g), .bool false] true (.bool true), .val (some (.bool (decide (z ≥ 0)))) (.bool true), .val (some (.bool (decide (z < 256)))) (.bool true)]) := by kernel_rfl
theorem due_run (n t a b c e : Int) (d : Bool) : (runX Tryz.prog none_ 60 74 (.call 74 [i64 n, i64 t, i64 0] (startS Tryz.prog [])) [.val 74 1 1 (i64 a), .val 74 1 3 (i64 b), .val 74 2 2 (i64 c), .val 74 2 3 (.bool true), .val 74 2 8 (i64 e), .val 74 2 10 (.bool d)]).map (fun x => (x.1.ts, x.2.2)) = some ([.bool d], [.val (some (.int .i64 (if 0 > n then Int.ofNat 0 else n))) (.int .i64 a), .val (some (.int .i64 (if 0 > t then Int.ofNat 0 else t))) (.int .i64 b), .val (some (.int .i64 (IntKind.i64.wrap (a.tdiv (Int.ofNat 3))))) (.int .i64 c), .val (some (.bool (decide ((if 0 > 0 then 0 else 0) ≤ c)))) (.bool true), .val (some (.int .i64 (IntKind.i64.wrap (a - Int.ofNat 0)))) (.int .i64 e), .val (some (.bool (decide (e ≥ b)))) (.bool d)]) := by kernel_rfl
theorem q_ref (s : AS) (z : Int) (g : Nat) : (Qst.eqv s 74 [.int .i64 z, .int .u32 (Int.ofNat g), .bool false] [.int .i64 z, .int .u32 (Int.ofNat g), .bool false] true (.bool true)).ok Tryz.prog := by
  refine ⟨true, ?_, rfl⟩
  have gd : guardA Tryz.prog 74 (.agg (rk (z, g))) (.agg (rk (z, g))) = true := by
    show (!Tryz.prog.eqGuardType Tryz.prog.depth 74) = true
    kernel_rfl
  have := eqR s (z, g) (z, g)
  show eqlA Tryz.prog s 74 (.agg (rk (z, g))) (.agg (rk (z, g))) = some true
  simp only [eqlA, gd, if_true, this, decide_true]
theorem rmay_q (z g b e r : Nat) (hz : z < 256) : (Qst.pure [] 112 [.agg (ent6 (Int.ofNat z) g b e r)] (.bool true)).ok Tryz.prog := by
  exact pure0 (rmay_run (Int.ofNat z) g b e r) ⟨q_ref _ _ _, congrArg (fun x => some (AV.bool x)) (decide_eq_true (Int.natCast_nonneg z)), congrArg (fun x => some (AV.bool x)) (decide_eq_true (by simp only [Int.ofNat_eq_natCast]; omega)), trivial⟩ rfl rfl rfl
theorem due_q (n t : Nat) (hn : n < 16777216) : (Qst.pure [] 74 [i64 (Int.ofNat n), i64 (Int.ofNat t), i64 0] (.bool (decide (t ≤ n)))).ok Tryz.prog := by
  have w : ∀ m : Nat, m < 16777216 → IntKind.i64.wrap (Int.ofNat m) = Int.ofNat m := fun m hm => i64_wrap (by simp only [Int.ofNat_eq_natCast]; omega) (by simp only [Int.ofNat_eq_natCast]; omega)
  refine pure0 (due_run (Int.ofNat n) (Int.ofNat t) (Int.ofNat n) (Int.ofNat t) (Int.ofNat (n / 3)) (Int.ofNat n) (decide (t ≤ n))) ⟨?_, ?_, ?_, ?_, ?_, ?_, trivial⟩ rfl rfl rfl
  · show some _ = some _
    rw [if_neg (by simp only [Int.ofNat_eq_natCast]; omega)]
  · show some _ = some _
    rw [if_neg (by simp only [Int.ofNat_eq_natCast]; omega)]
  · show some (AV.int .i64 (IntKind.i64.wrap (Int.ofNat (n / 3)))) = some _
    rw [w _ (by omega)]
  · exact congrArg (fun x => some (AV.bool x)) (decide_eq_true (by simp only [Int.ofNat_eq_natCast]; omega))
  · show some (AV.int .i64 (IntKind.i64.wrap (Int.ofNat n - Int.ofNat 0))) = some _
    rw [show Int.ofNat n - Int.ofNat 0 = Int.ofNat n by simp, w _ hn]
  · refine congrArg (fun x => some (AV.bool x)) ?_
    by_cases h : t ≤ n
    · rw [decide_eq_true h, decide_eq_true (by simp only [Int.ofNat_eq_natCast]; omega)]
    · rw [decide_eq_false h, decide_eq_false (by simp only [Int.ofNat_eq_natCast]; omega)]
def appE (rc : List (Nat × AObj)) (o : AObj) (s : AS) : AS := match rc with
  | (12, _) :: _ => (s.set 12 .dead).push o
  | _ => s.push o
def liV (ev hv : AV) : AObj := .cells false [ev, hv]
section
variable (M M2 : PM) (O O2 : AObj) (thr most th w k NN LL MM : Nat) (z : Int) (g b e r : Nat) (R : List AV) (OH OH2 : AObj)
def g_r6 (d : Bool) (ev hv : AV) (rc ro rn : List (Nat × AObj)) (C9 : List (Nat × AObj)) (scv : AV) (K : List (Nat × Nat)) (new : List Nat) (hb : Nat) (see : List (Nat × AObj)) : GR := ⟨38, aG, rtB thr most 6 z g b e r ++ [(10, gdO th), (11, liV ev hv)], [(18, goO thr most scv), (19, rtO 0 z g b e r), (10, gdO th), (11, liV (.osl 12 0 (k + 1) 6) (.map 13))] ++ C9, K, new, .bool (!d),
  [.pure 73 17 8 G (u64 w), .call 73 17 9 undefA (tfS M2 O2), .pure 100 3 1 [] (.bool true), .val 100 5 6 (i64 0), .eff 100 9 6 undefA (fun s => s.set hb OH2), .eff 100 10 7 (.osl NN 0 (k + 1) 6) (appE rc (.cells false (R ++ ent6 z g b e r))), .pure 38 5 24 [] (.bool d)],
  [hdrQ 2 g w, mst M O (9, z, 0) w M2 O2, .fix (.pure [] 112 [.agg (ent6 z g b e r)] (.bool true)), .lk 191 hv (refA z g) false (i64 0) see, .upd 191 (.map hb) (refA z g) (i64 1) (fun s => s.set hb OH2) (if hb = 13 then see else [(hb, .map [] [] 0)]),
   .app 138 138 ev (.slice LL 0 1 1) (.osl NN 0 (k + 1) 6) (appE rc (.cells false (R ++ ent6 z g b e r))) NN ((rc.filter fun y => Nat.beq y.1 12) ++ [(LL, .cells false (ent6 z g b e r))]), .fix (.pure [] 74 [i64 (Int.ofNat (k + 1)), i64 (Int.ofNat thr), i64 0] (.bool d))],
  rc, ro, rn, [(12, .cells false (R ++ ent6 z g b e r)), (13, OH2)]⟩
end
end Go.Proofs.YtofbdgmknfbkfaaGreatDoor.nodesLife
namespace Go.Proofs.YtofbdgmknfbkfaaGreatDoor.nodesLife
open Go Go.Mini
/-! ### a Retire's last step, wherever it lies -/
def c9 (d : Bool) (most : Nat) : List (Nat × AObj) := match d with
  | true => [(9, scO most nLd 0 0 .nilSlice .nilSlice .nilSlice), (15, ldO 3 0)]
  | false => []
def sv9 (d : Bool) : AV := match d with
  | true => .ptr 9 0
  | false => .nilPtr
def kl9 (d : Bool) (n : Nat) : List (Nat × Nat) := match d with
  | true => [(9, n + 1), (15, n)]
  | false => []
def nw9 (d : Bool) (n : Nat) : List Nat := match d with
  | true => [n, n + 1]
  | false => []
section
variable (M M2 : PM) (O O2 : AObj) (thr most th w k : Nat) (z : Int) (g b e r : Nat) (R : List AV) (OH OH2 : AObj)
def r6_2 (d : Bool) : GR := g_r6 M M2 O O2 thr most th w k 28 27 z g b e r R OH2 d (.osl 12 0 k 6) (.map 13) [(12, .cells false R), (13, OH)] [(12, .dead), (13, OH2)] [(28, .cells false (R ++ ent6 z g b e r))] (c9 d most) (sv9 d) ((12, 28) :: kl9 d 29) (28 :: nw9 d 29) 13 [(13, OH)]
def r6_1 (d : Bool) : GR := g_r6 M M2 O O2 thr most th w 0 28 27 z g b e r [] OH2 d .nilSlice (.map 13) [(13, OH)] [(13, OH2)] [(28, .cells false (ent6 z g b e r))] (c9 d most) (sv9 d) ((12, 28) :: kl9 d 29) (28 :: nw9 d 29) 13 [(13, OH)]
def r6_0 (d : Bool) : GR := g_r6 M M2 O O2 thr most th w 0 29 28 z g b e r [] OH2 d .nilSlice .nilMap [] [] [(29, .cells false (ent6 z g b e r)), (27, OH2)] (c9 d most) (sv9 d) ([(12, 29), (13, 27)] ++ kl9 d 30) ([27, 29] ++ nw9 d 30) 27 []
end
section
variable (M M2 : PM) (O O2 : AObj) (thr most th w k : Nat) (z : Int) (g b e r : Nat) (R : List AV) (OH OH2 : AObj)
theorem k_r62 (d : Bool) : (r6_2 M M2 O O2 thr most th w k z g b e r R OH OH2 d).L (mo7 M) O = (r6_2 M M2 O O2 thr most th w k z g b e r R OH OH2 d).R (mo7 M) O (mo7 M2) O2 := by
  cases d <;> kernel_rfl
theorem k_r61 (d : Bool) : (r6_1 M M2 O O2 thr most th w z g b e r OH OH2 d).L (mo7 M) O = (r6_1 M M2 O O2 thr most th w z g b e r OH OH2 d).R (mo7 M) O (mo7 M2) O2 := by
  cases d <;> kernel_rfl
theorem k_r60 (d : Bool) : (r6_0 M M2 O O2 thr most th w z g b e r OH2 d).L (mo7 M) O = (r6_0 M M2 O O2 thr most th w z g b e r OH2 d).R (mo7 M) O (mo7 M2) O2 := by
  cases d <;> kernel_rfl
theorem q_r62 (d : Bool) : (r6_2 M M2 O O2 thr most th w k z g b e r R OH OH2 d).stat = true := by cases d <;> kernel_rfl
theorem q_r61 (d : Bool) : (r6_1 M M2 O O2 thr most th w z g b e r OH OH2 d).stat = true := by cases d <;> kernel_rfl
theorem q_r60 (d : Bool) : (r6_0 M M2 O O2 thr most th w z g b e r OH2 d).stat = true := by cases d <;> kernel_rfl
end
end Go.Proofs.YtofbdgmknfbkfaaGreatDoor.nodesLife
namespace Go.Proofs.YtofbdgmknfbkfaaGreatDoor.nodesLife
open Go Go.Mini
/-! ### a Retire's last step: what it makes of the list -/
/-- A list's blocks, by its entries. -/
def LiAt (L : List Ent) (B : List (Nat × AObj)) : Prop :=
  (L = [] ∧ B = [(11, liV .nilSlice .nilMap)]) ∨ (L = [] ∧ ∃ OH, HadAt OH [] ∧ B = [(11, liV .nilSlice (.map 13)), (13, OH)]) ∨
  (L ≠ [] ∧ ∃ OH, HadAt OH L ∧ B = [(11, liV (.osl 12 0 L.length 6) (.map 13)), (12, .cells false (entsC L)), (13, OH)])
theorem HadAt.add {l : List (Int × Nat)} {ix : List Nat} {n : Nat} {L : List Ent} {e : Ent} (hn : l.Nodup) (hm : ∀ a, a ∈ l ↔ a ∈ L.map fun e => (Int.ofNat e.z, e.g)) (h : (Int.ofNat e.z, e.g) ∉ l) : HadAt (hadO (l ++ [(Int.ofNat e.z, e.g)]) (ix ++ [n]) (n + 1)) (L ++ [e]) := by
  refine ⟨_, _, _, rfl, List.nodup_append.2 ⟨hn, by simp, fun a ha b hb e' => ?_⟩, fun a => ?_⟩
  · have hb : b = (Int.ofNat e.z, e.g) := by simpa using hb
    exact h (by rw [← hb, ← e']; exact ha)
  · rw [List.map_append, List.mem_append, List.mem_append, hm a]
    rfl
theorem not_had {l : List (Int × Nat)} {L : List Ent} {z g : Nat} (hm : ∀ a, a ∈ l ↔ a ∈ L.map fun e => (Int.ofNat e.z, e.g)) (h : z ∉ L.map Ent.z) : (Int.ofNat z, g) ∉ l := fun hx => by
  obtain ⟨e, he, h2⟩ := List.mem_map.1 ((hm _).1 hx)
  simp only [Prod.mk.injEq] at h2
  exact h (List.mem_map.2 ⟨e, he, Int.ofNat.inj h2.1⟩)
theorem sub_app {α : Type} {a b a' b' : List α} (h : ∀ x ∈ a, x ∈ a') (h2 : ∀ x ∈ b, x ∈ b') : ∀ x ∈ a ++ b, x ∈ a' ++ b' := fun x hx => by
  rcases List.mem_append.1 hx with hx | hx
  · exact List.mem_append.2 (.inl (h x hx))
  · exact List.mem_append.2 (.inr (h2 x hx))
/-- Names that stay, but the scan's own. -/
def Low2 (κ : Nat → Nat) : Prop := κ 7 = 7 ∧ κ 8 = 8 ∧ κ 10 = 10 ∧ κ 11 = 11 ∧ κ 18 = 18 ∧ κ 19 = 19
theorem s_r6 {M : PM} {L : List Ent} {B : List (Nat × AObj)} (hB : LiAt L B) {thr most th z g b e r : Nat} (hz : z < 16) (hg' : g < 4294967296) (hL : z ∉ L.map Ent.z) (hl : L.length < 1000) :
    ∃ B' κ, LiAt (L ++ [⟨z, g, b, e, r⟩]) B' ∧ Low2 κ ∧ SF 38 aG (.bool (!decide (thr ≤ L.length + 1))) M (M.store (aZ z 0) (mkw 2 g)) (rtB thr most 6 (Int.ofNat z) g b e r ++ ((10, gdO th) :: B))
      ([(18, goO thr most (sv9 (decide (thr ≤ L.length + 1)))), (19, rtO 0 (Int.ofNat z) g b e r)] ++ (c9 (decide (thr ≤ L.length + 1)) most ++ ((10, gdO th) :: B'))) κ := by
  obtain ⟨d, hd⟩ : ∃ d, decide (thr ≤ L.length + 1) = d := ⟨_, rfl⟩
  rw [hd]
  have qm : ∀ {l : List QI}, QOk l → QOk (.fix (.pure [] 112 [.agg (ent6 (Int.ofNat z) g b e r)] (.bool true)) :: l) := fun h => ⟨rmay_q z g b e r (by omega), h⟩
  have qd : (Qst.pure [] 74 [i64 (Int.ofNat (L.length + 1)), i64 (Int.ofNat thr), i64 0] (.bool d)).ok Tryz.prog := by
    rw [← hd]
    exact due_q (L.length + 1) thr (by omega)
  have dn : ∀ p : Nat → Bool, namess p (ent6 (Int.ofNat z) g b e r) = true := fun p => rfl
  have eE : entsC [⟨z, g, b, e, r⟩] = ent6 (Int.ofNat z) g b e r := rfl
  rcases hB with ⟨rfl, rfl⟩ | ⟨rfl, OH, hO, rfl⟩ | ⟨hne, OH, hO, rfl⟩
  · have nO := hadO_names (fun _ => false) [(Int.ofNat z, g)] [0] 1
    refine ⟨[(11, liV (.osl 12 0 1 6) (.map 13)), (12, .cells false (ent6 (Int.ofNat z) g b e r)), (13, hadO [(Int.ofNat z, g)] [0] 1)], kl ([(12, 29), (13, 27)] ++ kl9 d 30), .inr (.inr ⟨by simp, _, ⟨_, _, _, rfl, by simp, fun a => by simp⟩, rfl⟩), by cases d <;> exact ⟨rfl, rfl, rfl, rfl, rfl, rfl⟩, ?_⟩
    have h := gr_step (v := .bool (!d)) (k_r60 M (M.store (aZ z 0) (mkw 2 g)) (mapO M.ms) (mapO (M.store (aZ z 0) (mkw 2 g)).ms) thr most th (mkw 2 g) (Int.ofNat z) g b e r (hadO [(Int.ofNat z, g)] [0] 1) d)
      (hdr_ok (by decide) hg' (mst_ok (a := aZ z 0) (show (0 : Int) ≤ 9 by decide) (qm ⟨fun s hs => lk_nil (a := (Int.ofNat z, g)), fun s hs => upd_had (l := []) (ix := []) (n := 0) (a := (Int.ofNat z, g)) (by simp) (hs (27, .map [] [] 0) (by simp)), fun s hn hs => by
        have := app_nil (P := Tryz.prog) (s := s) (b2 := 28) (c2 := 1) rowE (hs (28, .cells false (ent6 (Int.ofNat z) g b e r)) (by simp [List.filter])) rfl rfl
        rw [hn] at this
        exact this, qd, trivial⟩))) (q_r60 M (M.store (aZ z 0) (mkw 2 g)) (mapO M.ms) (mapO (M.store (aZ z 0) (mkw 2 g)).ms) thr most th (mkw 2 g) (Int.ofNat z) g b e r (hadO [(Int.ofNat z, g)] [0] 1) d) rfl (fun y hy => by cases hy) (fun y hy => by cases hy) (fun y hy => by
          simp only [r6_0, g_r6, List.mem_cons, List.not_mem_nil, or_false] at hy
          rcases hy with rfl | rfl
          · exact ⟨rfl, rfl⟩
          · exact ⟨rfl, nO⟩) (fun y hy => by
          simp only [r6_0, g_r6, List.mem_cons, List.not_mem_nil, or_false] at hy
          rcases hy with rfl | rfl
          · exact rfl
          · exact nO)
    exact h.use (sub_app (fun x hx => hx) fun x hx => by
      simp only [r6_0, g_r6, rtB, List.mem_append, List.mem_cons, List.not_mem_nil, or_false] at hx ⊢
      grind) (sub_app (fun x hx => hx) fun x hx => by
      simp only [r6_0, g_r6, rtB, List.mem_append, List.mem_cons, List.not_mem_nil, or_false] at hx ⊢
      grind)
  · obtain ⟨l, ix, n, rfl, hnd, hm⟩ := hO
    have ha : (Int.ofNat z, g) ∉ l := not_had hm (by simp)
    have nO := hadO_names (fun _ => false) l ix n
    have nO2 := hadO_names (fun _ => false) (l ++ [(Int.ofNat z, g)]) (ix ++ [n]) (n + 1)
    have hA := HadAt.add (ix := ix) (n := n) (e := ⟨z, g, b, e, r⟩) hnd hm ha
    refine ⟨[(11, liV (.osl 12 0 1 6) (.map 13)), (12, .cells false (ent6 (Int.ofNat z) g b e r)), (13, hadO (l ++ [(Int.ofNat z, g)]) (ix ++ [n]) (n + 1))], kl ((12, 28) :: kl9 d 29), .inr (.inr ⟨by simp, _, hA, rfl⟩), by cases d <;> exact ⟨rfl, rfl, rfl, rfl, rfl, rfl⟩, ?_⟩
    have h := gr_step (v := .bool (!d)) (k_r61 M (M.store (aZ z 0) (mkw 2 g)) (mapO M.ms) (mapO (M.store (aZ z 0) (mkw 2 g)).ms) thr most th (mkw 2 g) (Int.ofNat z) g b e r (hadO l ix n) (hadO (l ++ [(Int.ofNat z, g)]) (ix ++ [n]) (n + 1)) d)
      (hdr_ok (by decide) hg' (mst_ok (a := aZ z 0) (show (0 : Int) ≤ 9 by decide) (qm ⟨fun s hs => lk_had0 (a := (Int.ofNat z, g)) ha (hs (13, hadO l ix n) (by simp)), fun s hs => upd_had (a := (Int.ofNat z, g)) ha (hs (13, hadO l ix n) (by simp)), fun s hn hs => by
        have := app_nil (P := Tryz.prog) (s := s) (b2 := 27) (c2 := 1) rowE (hs (27, .cells false (ent6 (Int.ofNat z) g b e r)) (by simp [List.filter])) rfl rfl
        rw [hn] at this
        exact this, qd, trivial⟩))) (q_r61 M (M.store (aZ z 0) (mkw 2 g)) (mapO M.ms) (mapO (M.store (aZ z 0) (mkw 2 g)).ms) thr most th (mkw 2 g) (Int.ofNat z) g b e r (hadO l ix n) (hadO (l ++ [(Int.ofNat z, g)]) (ix ++ [n]) (n + 1)) d) rfl (fun y hy => by
          simp only [r6_1, g_r6, List.mem_cons, List.not_mem_nil, or_false] at hy
          subst hy
          exact ⟨rfl, nO⟩) (fun y hy => by
          simp only [r6_1, g_r6, List.mem_cons, List.not_mem_nil, or_false] at hy
          subst hy
          exact ⟨.inl rfl, nO2⟩) (fun y hy => by
          simp only [r6_1, g_r6, List.mem_cons, List.not_mem_nil, or_false] at hy
          subst hy
          exact ⟨rfl, rfl⟩) (fun y hy => by
          simp only [r6_1, g_r6, List.mem_cons, List.not_mem_nil, or_false] at hy
          rcases hy with rfl | rfl
          · exact rfl
          · exact nO2)
    exact h.use (sub_app (fun x hx => hx) fun x hx => by
      simp only [r6_1, g_r6, rtB, List.mem_append, List.mem_cons, List.not_mem_nil, or_false] at hx ⊢
      grind) (sub_app (fun x hx => hx) fun x hx => by
      simp only [r6_1, g_r6, rtB, List.mem_append, List.mem_cons, List.not_mem_nil, or_false] at hx ⊢
      grind)
  · obtain ⟨l, ix, n, rfl, hnd, hm⟩ := hO
    have ha : (Int.ofNat z, g) ∉ l := not_had hm hL
    have nO := hadO_names (fun _ => false) l ix n
    have nO2 := hadO_names (fun _ => false) (l ++ [(Int.ofNat z, g)]) (ix ++ [n]) (n + 1)
    have hA := HadAt.add (ix := ix) (n := n) (e := ⟨z, g, b, e, r⟩) hnd hm ha
    have nR := entsC_names (fun _ => false) L
    have nR2 : namess (fun _ => false) (entsC L ++ ent6 (Int.ofNat z) g b e r) = true := namess_app nR rfl
    refine ⟨[(11, liV (.osl 12 0 (L.length + 1) 6) (.map 13)), (12, .cells false (entsC L ++ ent6 (Int.ofNat z) g b e r)), (13, hadO (l ++ [(Int.ofNat z, g)]) (ix ++ [n]) (n + 1))], kl ((12, 28) :: kl9 d 29), .inr (.inr ⟨by simp, _, hA, by rw [entsC_app, List.length_append]; rfl⟩), by cases d <;> exact ⟨rfl, rfl, rfl, rfl, rfl, rfl⟩, ?_⟩
    have h := gr_step (v := .bool (!d)) (k_r62 M (M.store (aZ z 0) (mkw 2 g)) (mapO M.ms) (mapO (M.store (aZ z 0) (mkw 2 g)).ms) thr most th (mkw 2 g) L.length (Int.ofNat z) g b e r (entsC L) (hadO l ix n) (hadO (l ++ [(Int.ofNat z, g)]) (ix ++ [n]) (n + 1)) d)
      (hdr_ok (by decide) hg' (mst_ok (a := aZ z 0) (show (0 : Int) ≤ 9 by decide) (qm ⟨fun s hs => lk_had0 (a := (Int.ofNat z, g)) ha (hs (13, hadO l ix n) (by simp)), fun s hs => upd_had (a := (Int.ofNat z, g)) ha (hs (13, hadO l ix n) (by simp)), fun s hn hs => by
        have := app_osl (P := Tryz.prog) (s := s) (b := 12) (b2 := 27) (c2 := 1) rowE (hs (12, .cells false (entsC L)) (by simp [List.filter])) (entsC_len L) (entsC_one L) (hs (27, .cells false (ent6 (Int.ofNat z) g b e r)) (by simp [List.filter])) rfl rfl (by omega)
        rw [hn] at this
        exact this, qd, trivial⟩))) (q_r62 M (M.store (aZ z 0) (mkw 2 g)) (mapO M.ms) (mapO (M.store (aZ z 0) (mkw 2 g)).ms) thr most th (mkw 2 g) L.length (Int.ofNat z) g b e r (entsC L) (hadO l ix n) (hadO (l ++ [(Int.ofNat z, g)]) (ix ++ [n]) (n + 1)) d) rfl (fun y hy => by
          simp only [r6_2, g_r6, List.mem_cons, List.not_mem_nil, or_false] at hy
          rcases hy with rfl | rfl
          · exact ⟨rfl, nR⟩
          · exact ⟨rfl, nO⟩) (fun y hy => by
          simp only [r6_2, g_r6, List.mem_cons, List.not_mem_nil, or_false] at hy
          rcases hy with rfl | rfl
          · exact ⟨.inr rfl, rfl⟩
          · exact ⟨.inl rfl, nO2⟩) (fun y hy => by
          simp only [r6_2, g_r6, List.mem_cons, List.not_mem_nil, or_false] at hy
          subst hy
          exact ⟨rfl, nR2⟩) (fun y hy => by
          simp only [r6_2, g_r6, List.mem_cons, List.not_mem_nil, or_false] at hy
          rcases hy with rfl | rfl
          · exact nR2
          · exact nO2)
    exact h.use (sub_app (fun x hx => hx) fun x hx => by
      simp only [r6_2, g_r6, rtB, List.mem_append, List.mem_cons, List.not_mem_nil, or_false] at hx ⊢
      grind) (sub_app (fun x hx => hx) fun x hx => by
      simp only [r6_2, g_r6, rtB, List.mem_append, List.mem_cons, List.not_mem_nil, or_false] at hx ⊢
      grind)
end Go.Proofs.YtofbdgmknfbkfaaGreatDoor.nodesLife
namespace Go.Proofs.YtofbdgmknfbkfaaGreatDoor.nodesLife
open Go Go.Mini
/-! ### all entries of a list -/
def g_all (n NN : Nat) (bv : AV) (R : List AV) (see : List (Nat × AObj)) : GR := ⟨126, [.ptr 11 0], [(11, liV (.osl 12 0 n 6) (.map 13))], [(11, liV (.osl 12 0 n 6) (.map 13))], [(22, NN)], [NN], .slice NN 0 n n,
  [.eff 133 3 2 (.osl NN 0 n 6) (fun s => s.push (.cells false R)), .val 132 1 5 (.slice NN 0 n n)],
  [.app 138 138 bv (.osl 12 0 n 6) (.osl NN 0 n 6) (fun s => s.push (.cells false R)) NN ((12, .cells false R) :: see), .fix (.sli 138 (.osl NN 0 n 6) none (some (i64 (Int.ofNat n))) (some (i64 (Int.ofNat n))) (.slice NN 0 n n))],
  [(12, .cells false R)], [(12, .cells false R)], [(NN, .cells false R)], [(12, .cells false R), (22, .cells false R)]⟩
theorem k_all (M : PM) (O : AObj) (n : Nat) (R : List AV) : (g_all n 25 (.slice 24 0 0 0) R [(24, .cells false [])]).L (mo7 M) O = (g_all n 25 (.slice 24 0 0 0) R [(24, .cells false [])]).R (mo7 M) O (mo7 M) O := by kernel_rfl
theorem q_all (n : Nat) (R : List AV) : (g_all n 25 (.slice 24 0 0 0) R [(24, .cells false [])]).stat = true := by kernel_rfl
theorem app_all {t t2 : TypeId} {n a b k : Nat} {s : AS} {R : List AV} (ht : rowT Tryz.prog t t2 k = true) (ha : s.get a = some (.cells false [])) (hb : s.get b = some (.cells false R)) (hR : R.length = n * k) (hr : R.all AV.one = true) (h0 : 0 < n) (hn : n < 16777216) :
    appendA Tryz.prog s t t2 (.slice a 0 0 0) (.osl b 0 n k) = some (.osl s.nx 0 n k, s.push (.cells false R)) := by
  obtain ⟨elem, e2, i, z, size, u1, u2, u3, u4, u5, rfl, u6, u7⟩ := rowT_inv ht
  have hf : firstA s (size + 1) n (.osl b 0 n (size + 1)) = some R := by
    simp only [firstA, readA, hb, List.drop_zero]
    exact takeN_all hR
  have h1 : Nat.ble n 0 = false := by
    cases n with
    | zero => omega
    | succ n => rfl
  have hs : small n = true := by
    unfold small
    exact Nat.ble_eq_true_of_le (by omega)
  have hd : readA s a 0 (0 * (size + 1)) = some [] := by
    simp only [readA, ha, Nat.zero_mul]
    rfl
  simp only [appendA, u1, u2, u3, u4, u5, sliceLen, u6, u7, hf, hr, Nat.zero_add, h1, hs, hd, Bool.and_self, Bool.not_true, Bool.false_eq_true, if_false, if_true, List.nil_append, List.all_nil, Nat.zero_add]
theorem sli3 {t elem : TypeId} {k n b : Nat} (u : Tryz.prog.underlying t = some (.slice elem)) (z : sizeA Tryz.prog elem = some k) : sliceA Tryz.prog t (.osl b 0 n k) none (some (i64 (Int.ofNat n))) (some (i64 (Int.ofNat n))) = some (.slice b 0 n n) := by
  have h : boundA (some (i64 (Int.ofNat n))) 0 n = some n := by
    simp only [boundA, i64]
    rw [if_pos ⟨Int.natCast_nonneg n, Int.le_refl _⟩]
    rfl
  have bn : ∀ d m : Nat, boundA none d m = some d := fun _ _ => rfl
  simp only [sliceA, u, z, h, bn]
  simp
theorem all_step {M : PM} {L : List Ent} (hL : L ≠ []) (hl : L.length < 1000) : SF 126 [.ptr 11 0] (.slice 22 0 L.length L.length) M M ([(11, liV (.osl 12 0 L.length 6) (.map 13))] ++ [(12, .cells false (entsC L))]) ([(11, liV (.osl 12 0 L.length 6) (.map 13))] ++ [(12, .cells false (entsC L)), (22, .cells false (entsC L))]) (kl [(22, 25)]) := by
  have nR := entsC_names (fun _ => false) L
  have hp : 0 < L.length := List.length_pos_iff.2 hL
  refine gr_step (g := g_all L.length 25 (.slice 24 0 0 0) (entsC L) [(24, .cells false [])]) (k_all M (mapO M.ms) L.length (entsC L)) ⟨fun s hn hs => ?_, sli3 uE zE, trivial⟩ (q_all L.length (entsC L)) rfl (fun y hy => ?_) (fun y hy => ?_) (fun y hy => ?_) (fun y hy => ?_)
  · have := app_all (s := s) (a := 24) (b := 12) rowE (hs (24, .cells false []) (by simp)) (hs (12, .cells false (entsC L)) (by simp)) (entsC_len L) (entsC_one L) hp (by omega)
    rw [hn] at this
    exact this
  · simp only [g_all, List.mem_cons, List.not_mem_nil, or_false] at hy
    subst hy
    exact ⟨rfl, nR⟩
  · simp only [g_all, List.mem_cons, List.not_mem_nil, or_false] at hy
    subst hy
    exact ⟨.inl rfl, nR⟩
  · simp only [g_all, List.mem_cons, List.not_mem_nil, or_false] at hy
    subst hy
    exact ⟨rfl, nR⟩
  · simp only [g_all, List.mem_cons, List.not_mem_nil, or_false] at hy
    rcases hy with rfl | rfl <;> exact nR
end Go.Proofs.YtofbdgmknfbkfaaGreatDoor.nodesLife
namespace Go.Proofs.YtofbdgmknfbkfaaGreatDoor.nodesLife
open Go Go.Mini
/-! ### behind a sweep: the first Free, or none -/
section
variable (most y m n : Nat) (z : Int) (g : Nat) (R : List AV)
def g_f0 : GD := ⟨120, aN, [(9, scO most nLd y m sN .nilSlice .nilSlice)], [(9, scO most .nilIface y m sN .nilSlice .nilSlice)], [], [], .tuple [], [], []⟩
def g_ff (NN a b c : Nat) : GR := ⟨120, aN, [(9, scO most nLd y m sN (.slice 20 0 (n + 1) (n + 1)) .nilSlice)],
  [(9, scO most nFr y m sN (.slice 20 6 n n) (.osl 21 0 1 3)), (15, frO z hdrI 1 0), (16, hdO z nfF 0 false 0), (17, moO most)], [(21, NN), (15, a), (16, b), (17, c)], [NN, a, b, c], .tuple [],
  [.val 120 0 5 (.bool false), .val 120 2 4 (.ptr 20 0), .val 120 2 6 (refA z g), .val 120 3 5 (.slice 20 6 n n), .eff 120 4 7 (.osl NN 0 1 3) (fun s => s.push (.cells false (refC z g))), .val 63 1 1 (.bool true), .val 63 1 4 (.bool true)],
  [vQ (.bool (decide (Int.ofNat (n + 1) = Int.ofNat 0))) (.bool false), .fix (.idx 138 (.slice 20 0 (n + 1) (n + 1)) (i64 0) (.ptr 20 0)), .ld 74 (.ptr 20 0) (refA z g) [(20, .cells false R)], .fix (.sli 138 (.slice 20 0 (n + 1) (n + 1)) (some (i64 1)) none none (.slice 20 6 n n)),
   .app 49 49 .nilSlice (.slice (NN - 1) 0 1 1) (.osl NN 0 1 3) (fun s => s.push (.cells false (refC z g))) NN [(NN - 1, .cells false (refC z g))], vQ (.bool (decide (z ≥ 0))) (.bool true), vQ (.bool (decide (z < 256))) (.bool true)],
  [(20, .cells false R)], [(20, .cells false R)], [(NN, .cells false (refC z g))], [(20, .cells false R), (21, .cells false (refC z g))]⟩
end
theorem k_f0 (M : PM) (O : AObj) (most y m : Nat) : GdOk (g_f0 most y m) M M O O := ⟨by kernel_rfl, by kernel_rfl⟩
theorem k_ff (M : PM) (O : AObj) (most y m n : Nat) (z : Int) (g : Nat) (R : List AV) : (g_ff most y m n z g R 26 29 28 27).L (mo7 M) O = (g_ff most y m n z g R 26 29 28 27).R (mo7 M) O (mo7 M) O := by kernel_rfl
theorem q_ff (most y m n : Nat) (z : Int) (g : Nat) (R : List AV) : (g_ff most y m n z g R 26 29 28 27).stat = true := by kernel_rfl
theorem ff_step {most y m : Nat} {M : PM} {e : Ent} {l : List Ent} (hz : e.z < 16) : SF 120 aN (.tuple []) M M ([(9, scO most nLd y m sN (.slice 20 0 (l.length + 1) (l.length + 1)) .nilSlice)] ++ [(20, .cells false (entsC (e :: l)))])
    ([(9, scO most nFr y m sN (.slice 20 6 l.length l.length) (.osl 21 0 1 3)), (15, frO (Int.ofNat e.z) hdrI 1 0), (16, hdO (Int.ofNat e.z) nfF 0 false 0), (17, moO most)] ++ [(20, .cells false (entsC (e :: l))), (21, .cells false (refsC [e.ref]))]) (kl [(21, 26), (15, 29), (16, 28), (17, 27)]) := by
  have nR := entsC_names (fun _ => false) (e :: l)
  have hR : GoesAt (entsC (e :: l)) 0 (e :: l) := ⟨rfl, nR⟩
  refine gr_step (g := g_ff most y m l.length (Int.ofNat e.z) e.g (entsC (e :: l)) 26 29 28 27) (k_ff M (mapO M.ms) most y m l.length (Int.ofNat e.z) e.g (entsC (e :: l))) (vn_ok (fun h => by cases h) ⟨idx0 20 0 l.length, fun s hs => ldRef (hs (20, .cells false (entsC (e :: l))) (by simp)) hR, sli1 20 0 l.length, fun s hn hs => ?_, vb_ok (Int.natCast_nonneg _) (vb_ok (by simp only [Int.ofNat_eq_natCast]; omega) trivial)⟩) (q_ff ..) rfl (fun x hx => ?_) (fun x hx => ?_) (fun x hx => ?_) (fun x hx => ?_)
  · have := app_nil (P := Tryz.prog) (s := s) (b2 := 25) (c2 := 1) rowR (hs (25, .cells false (refC (Int.ofNat e.z) e.g)) (by simp)) rfl rfl
    rw [hn] at this
    exact this
  · simp only [g_ff, List.mem_cons, List.not_mem_nil, or_false] at hx
    subst hx
    exact ⟨rfl, nR⟩
  · simp only [g_ff, List.mem_cons, List.not_mem_nil, or_false] at hx
    subst hx
    exact ⟨.inl rfl, nR⟩
  · simp only [g_ff, List.mem_cons, List.not_mem_nil, or_false] at hx
    subst hx
    exact ⟨rfl, rfl⟩
  · simp only [g_ff, List.mem_cons, List.not_mem_nil, or_false] at hx
    rcases hx with rfl | rfl
    · exact nR
    · exact rfl
end Go.Proofs.YtofbdgmknfbkfaaGreatDoor.nodesLife
namespace Go.Proofs.YtofbdgmknfbkfaaGreatDoor.nodesLife
open Go Go.Mini
/-! ### scans.May, of a snapshot of threads that are not there -/
section
variable (z : Int) (g b e r ep y d : Nat)
def aM : List AV := [.agg (ent6 z g b e r), u8 y, .agg [.slice 14 0 4 4, u64 0], u64 ep]
def dP : List Dec := [.val 144 1 4 (.bool false), .val 144 1 4 (.bool false), .val 144 1 4 (.bool false), .val 144 1 4 (.bool false)]
def qP : List QI := [vQ (.bool (decide (0 > Int.ofNat b))) (.bool false), vQ (.bool (decide (0 > Int.ofNat b))) (.bool false), vQ (.bool (decide (0 > Int.ofNat b))) (.bool false), vQ (.bool (decide (0 > Int.ofNat b))) (.bool false)]
def yQ (n : Nat) (v : Bool) : QI := vQ (.bool (decide (Int.ofNat n = Int.ofNat y))) (.bool v)
def gM (v : Bool) (ds : List Dec) (qs : List QI) : GD := ⟨127, aM z g b e r ep y, [(14, .cells false Z40)], [(14, .cells false Z40)], [], [], .bool v, ds, qs⟩
def gM0 : GD := gM z g b e r ep y false [.val 127 4 3 (.bool false), .val 127 4 3 (.bool false), .val 127 4 3 (.bool false)] [yQ y 1 false, yQ y 2 false, yQ y 4 false]
def gM1a : GD := gM z g b e r ep y false [.val 127 4 3 (.bool true), .val 138 1 3 (.bool false)] [yQ y 1 true, vQ (.bool (decide (Int.ofNat ep ≥ Int.ofNat e))) (.bool false)]
def gM1b : GD := gM z g b e r ep y false [.val 127 4 3 (.bool true), .val 138 1 3 (.bool true), .val 138 1 8 (u64 d), .val 138 1 9 (.bool false)] [yQ y 1 true, vQ (.bool (decide (Int.ofNat ep ≥ Int.ofNat e))) (.bool true), vQ (.int .u64 (IntKind.u64.wrap (Int.ofNat ep - Int.ofNat e))) (u64 d), vQ (.bool (decide (Int.ofNat d ≥ Int.ofNat 2))) (.bool false)]
def gM1c : GD := gM z g b e r ep y true ([.val 127 4 3 (.bool true), .val 138 1 3 (.bool true), .val 138 1 8 (u64 d), .val 138 1 9 (.bool true)] ++ dP) ([yQ y 1 true, vQ (.bool (decide (Int.ofNat ep ≥ Int.ofNat e))) (.bool true), vQ (.int .u64 (IntKind.u64.wrap (Int.ofNat ep - Int.ofNat e))) (u64 d), vQ (.bool (decide (Int.ofNat d ≥ Int.ofNat 2))) (.bool true)] ++ qP b)
def gM2 : GD := gM z g b e r ep y true ([.val 127 4 3 (.bool false), .val 127 4 3 (.bool true)] ++ dP) ([yQ y 1 false, yQ y 2 true] ++ qP b)
def gM4 : GD := gM z g b e r ep y true ([.val 127 4 3 (.bool false), .val 127 4 3 (.bool false), .val 127 4 3 (.bool true)] ++ dP) ([yQ y 1 false, yQ y 2 false, yQ y 4 true] ++ qP b)
end
section
variable (z : Int) (g b e r ep y d : Nat) (M : PM) (O : AObj)
theorem kM0 : GdOk (gM0 z g b e r ep y) M M O O := ⟨by kernel_rfl, by kernel_rfl⟩
theorem kM1a : GdOk (gM1a z g b e r ep y) M M O O := ⟨by kernel_rfl, by kernel_rfl⟩
theorem kM1b : GdOk (gM1b z g b e r ep y d) M M O O := ⟨by kernel_rfl, by kernel_rfl⟩
theorem kM1c : GdOk (gM1c z g b e r ep y d) M M O O := ⟨by kernel_rfl, by kernel_rfl⟩
theorem kM2 : GdOk (gM2 z g b e r ep y) M M O O := ⟨by kernel_rfl, by kernel_rfl⟩
theorem kM4 : GdOk (gM4 z g b e r ep y) M M O O := ⟨by kernel_rfl, by kernel_rfl⟩
end
theorem qP_ok {b : Nat} : QOk (qP b) := by
  have h : ¬ (0 > Int.ofNat b) := by simp only [Int.ofNat_eq_natCast]; omega
  exact vn_ok h (vn_ok h (vn_ok h (vn_ok h trivial)))
theorem yQ_ok {y n : Nat} {v : Bool} {l : List QI} (h : (decide (n = y)) = v) (hl : QOk l) : QOk (yQ y n v :: l) := by
  refine v_ok ?_ hl
  congr 1
  rw [← h]
  by_cases e : n = y
  · rw [decide_eq_true e, decide_eq_true (by rw [e])]
  · rw [decide_eq_false e, decide_eq_false (fun h => e (Int.ofNat.inj h))]
/-- May an entry go? Yes or no. -/
theorem may_step (z : Int) (g b e r ep y : Nat) (he : e < 18446744073709551616) (hp : ep < 18446744073709551616) (M : PM) : ∃ v, SF 127 (aM z g b e r ep y) (.bool v) M M [(14, .cells false Z40)] [(14, .cells false Z40)] (kl []) := by
  by_cases h1 : 1 = y
  · have y1 : decide (1 = y) = true := decide_eq_true h1
    by_cases c1 : e ≤ ep
    · have hs : AV.int .u64 (IntKind.u64.wrap (Int.ofNat ep - Int.ofNat e)) = u64 (ep - e) := by
        rw [show Int.ofNat ep - Int.ofNat e = Int.ofNat (ep - e) by simp only [Int.ofNat_eq_natCast]; omega, u64_wrap (by simp only [Int.ofNat_eq_natCast]; omega) (by simp only [Int.ofNat_eq_natCast]; omega)]
        rfl
      have c1' : Int.ofNat ep ≥ Int.ofNat e := by simp only [Int.ofNat_eq_natCast]; omega
      by_cases c2 : 2 ≤ ep - e
      · exact ⟨true, stp (kM1c z g b e r ep y (ep - e) M (mapO M.ms)) (yQ_ok y1 (vb_ok c1' (v_ok hs (vb_ok (by simp only [Int.ofNat_eq_natCast]; omega) qP_ok)))) rfl⟩
      · exact ⟨false, stp (kM1b z g b e r ep y (ep - e) M (mapO M.ms)) (yQ_ok y1 (vb_ok c1' (v_ok hs (vn_ok (by simp only [Int.ofNat_eq_natCast]; omega) trivial)))) rfl⟩
    · exact ⟨false, stp (kM1a z g b e r ep y M (mapO M.ms)) (yQ_ok y1 (vn_ok (by simp only [Int.ofNat_eq_natCast]; omega) trivial)) rfl⟩
  · have y1 : decide (1 = y) = false := decide_eq_false h1
    by_cases h2 : 2 = y
    · exact ⟨true, stp (kM2 z g b e r ep y M (mapO M.ms)) (yQ_ok y1 (yQ_ok (decide_eq_true h2) qP_ok)) rfl⟩
    · by_cases h4 : 4 = y
      · exact ⟨true, stp (kM4 z g b e r ep y M (mapO M.ms)) (yQ_ok y1 (yQ_ok (decide_eq_false h2) (yQ_ok (decide_eq_true h4) qP_ok))) rfl⟩
      · exact ⟨false, stp (kM0 z g b e r ep y M (mapO M.ms)) (yQ_ok y1 (yQ_ok (decide_eq_false h2) (yQ_ok (decide_eq_false h4) trivial))) rfl⟩
end Go.Proofs.YtofbdgmknfbkfaaGreatDoor.nodesLife
namespace Go.Proofs.YtofbdgmknfbkfaaGreatDoor.nodesLife
open Go Go.Mini
/-! ### the sweep's first loop: may they go? -/
def TS (p9 h nb gb n i : Nat) (j : Nat → AV) : List AV := [.ptr p9 0, u64 h, j 2, j 3, .slice nb 0 n n, .slice gb 0 n n, j 6, j 7, j 8, j 9, j 10, j 11, j 12, j 13, j 14, j 15, j 16, j 17, j 18, j 19, j 20, j 21, i64 (Int.ofNat n), i64 (Int.ofNat i), j 24, j 25, j 26, j 27, j 28, j 29, j 30, j 31, j 32, j 33, j 34, j 35, j 36, j 37, j 38, j 39, j 40, j 41, j 42, j 43, j 44, j 45, j 46, j 47, j 48, j 49, j 50, j 51, j 52, j 53, j 54, j 55]
noncomputable def rL (f : Nat) (c : Code) (ts : List AV) (s : AS) (ds : List Dec) : Option (AExit × List AV × AS × List Qst) := (runX Tryz.prog none_ 90 f (.code c ts s) ds).map fun x => (x.1.e, x.1.ts, x.1.s, x.2.2)
noncomputable def rR (f : Nat) (c : Code) (ts : List AV) (s : AS) (ds : List Dec) (T : (Nat → AV) → List AV) (e : AExit) (s' : AS) (q : List Qst) : Option (AExit × List AV × AS × List Qst) := match runX Tryz.prog none_ 90 f (.code c ts s) ds with
  | some x => some (e, T (tget x.1.ts), s', q)
  | none => some (e, [], s', q)
theorem run_T {f : Nat} {c : Code} {ts : List AV} {s s' : AS} {ds : List Dec} {T : (Nat → AV) → List AV} {e : AExit} {q : List Qst} (h : rL f c ts s ds = rR f c ts s ds T e s' q) (hq : Qsts Tryz.prog q) : ∃ j, Sound Tryz.prog (.code c ts s) ⟨e, T j, s'⟩ := by
  unfold rL rR at h
  cases hr : runX Tryz.prog none_ 90 f (.code c ts s) ds with
  | none => rw [hr] at h; cases h
  | some x =>
    rw [hr] at h
    obtain ⟨⟨e', ts', s1⟩, ds', q'⟩ := x
    simp only [Option.map_some, Option.some.injEq, Prod.mk.injEq] at h
    obtain ⟨rfl, h2, rfl, rfl⟩ := h
    refine ⟨tget ts', ?_⟩
    rw [← h2]
    exact runX_sound mixed none_sound hr hq
noncomputable def cL1 : Code := loopAt Tryz.prog 116 0
def lpD : List Dec := [.val 116 3 0 (.bool false)]
theorem lp_end (s : AS) (p9 h nb gb n i : Nat) (j : Nat → AV) : rL 116 cL1 (TS p9 h nb gb n i j) s lpD = rR 116 cL1 (TS p9 h nb gb n i j) s lpD (TS p9 h nb gb n i) (.exit 0) s [.val (some (.bool (decide (Int.ofNat i < Int.ofNat n)))) (.bool false)] := by kernel_rfl
def lgD (s1 s2 : AS) (p14 nb gb i k y : Nat) (z : Int) (g b e r : Nat) (v : Bool) : List Dec := [.val 116 3 0 (.bool true), .skip 116 5 999, .val 116 5 4 (.ptr nb k), .val 116 5 5 (.agg (ent6 z g b e r)), .val 116 5 9 (u8 y), .val 116 5 13 (.agg [.slice p14 0 4 4, u64 0]), .call 116 5 15 (.bool v) (fun _ => s1), .val 116 5 16 (.ptr gb i), .eff 116 5 17 undefA (fun _ => s2), .val 116 6 0 (i64 (Int.ofNat (i + 1)))]
theorem lp_go (s s1 s2 : AS) (p9 p14 h nb gb n i k y : Nat) (z : Int) (g b e r : Nat) (j : Nat → AV) (v : Bool) : rL 116 cL1 (TS p9 h nb gb n i j) s (lgD s1 s2 p14 nb gb i k y z g b e r v) = rR 116 cL1 (TS p9 h nb gb n i j) s (lgD s1 s2 p14 nb gb i k y z g b e r v) (TS p9 h nb gb n (i + 1)) .normal s2
  [.val (some (.bool (decide (Int.ofNat i < Int.ofNat n)))) (.bool true), .idx 138 (.slice nb 0 n n) (i64 (Int.ofNat i)) (.ptr nb k), .ld 197 s (.ptr nb k) (.agg (ent6 z g b e r)), .ld 30 s (.ptr p9 3) (u8 y), .ld 210 s (.ptr p9 5) (.agg [.slice p14 0 4 4, u64 0]), .snd (.call 127 [.agg (ent6 z g b e r), u8 y, .agg [.slice p14 0 4 4, u64 0], u64 h] s) ⟨.ret, [.bool v], s1⟩,
   .idx 246 (.slice gb 0 n n) (i64 (Int.ofNat i)) (.ptr gb i), .sto s1 4 (.ptr gb i) (.bool v) undefA s2, .ld 210 s (.ptr p9 5) (.agg [.slice p14 0 4 4, u64 0]), .ld 30 s (.ptr p9 3) (u8 y), .ld 197 s (.ptr nb k) (.agg (ent6 z g b e r)), .val (some (.int .i64 (IntKind.i64.wrap (Int.ofNat (i + 1))))) (i64 (Int.ofNat (i + 1)))] := by kernel_rfl
end Go.Proofs.YtofbdgmknfbkfaaGreatDoor.nodesLife
namespace Go.Mini
open Go Go.RowKit
theorem At.put {P : Program} {bs1 bs2 : List (Nat × AObj)} {Fz : List (Nat × List AV)} {s s2 : AS} {π : Nat → Nat} {b nx0 : Nat} {o o' : AObj} (A : At P (bs1 ++ (b, o) :: bs2) Fz s π) (hk : b ∉ (bs1 ++ bs2).map (·.1)) (hb : s2.h.bs = setB s.h.bs (π b) (o'.ren π)) (hn : s2.nx = s.nx) :
    At P (bs1 ++ (b, o') :: bs2) Fz s2 π ∧ Moved nx0 (bs1 ++ (b, o) :: bs2) (bs1 ++ (b, o') :: bs2) π π (fun c => c) s s2 := by
  have g : ∀ c, s2.get c = if c = π b then (s.get (π b)).map fun _ => o'.ren π else s.get c := fun c => by
    show getB _ _ = _
    rw [hb]
    exact getB_setB (π b) (o'.ren π) c s.h.bs
  have km : (bs1 ++ (b, o') :: bs2).map (·.1) = (bs1 ++ (b, o) :: bs2).map (·.1) := by simp
  have bm : b ∈ (bs1 ++ (b, o) :: bs2).map (·.1) := List.mem_map.2 ⟨(b, o), by simp, rfl⟩
  have gb : s.get (π b) = some (o.ren π) := eachX_mem A.at_ (b, o) (by simp)
  refine ⟨⟨A.glob, fun x hx => ?_, fun c hc => A.out c (by rw [← km]; exact hc), fun c hc d hd => A.inj c (by rw [← km]; exact hc) d (by rw [← km]; exact hd), eachX_all fun x hx => ?_, ?_⟩, fun c hc => .inl ⟨c, by rw [← km]; exact hc, rfl⟩, fun _ _ _ => rfl, fun c hc hd => ?_, by rw [hn]; exact Nat.le_refl _⟩
  · obtain ⟨ro, hr⟩ := A.fz x hx
    exact ⟨ro, by rw [g, if_neg fun e => A.out b bm x hx e.symm]; exact hr⟩
  · by_cases e : x.1 = b
    · have : x = (b, o') := by
        rcases List.mem_append.1 hx with h | h
        · exact absurd (List.mem_map.2 ⟨x, List.mem_append.2 (.inl h), e⟩) hk
        · rcases List.mem_cons.1 h with h | h
          · exact h
          · exact absurd (List.mem_map.2 ⟨x, List.mem_append.2 (.inr h), e⟩) hk
      rw [this, g, if_pos rfl, gb]
      rfl
    · have hx' : x ∈ bs1 ++ (b, o) :: bs2 := by
        rcases List.mem_append.1 hx with h | h
        · exact List.mem_append.2 (.inl h)
        · rcases List.mem_cons.1 h with h | h
          · exact absurd (by rw [h]) e
          · exact List.mem_append.2 (.inr (List.mem_cons_of_mem _ h))
      rw [g, if_neg fun h => e (A.inj x.1 (List.mem_map.2 ⟨x, hx', rfl⟩) b bm h)]
      exact eachX_mem A.at_ x hx'
  · rw [hb, hn, set_keys]
    exact A.keys
  · rw [g, if_neg fun e => hd b bm e.symm]
end Go.Mini
namespace Go.Proofs.YtofbdgmknfbkfaaGreatDoor.nodesLife
open Go Go.Mini
/-! ### the sweep's first loop -/
theorem uB : Tryz.prog.underlying 246 = some (.slice 4) := by kernel_rfl
theorem zB : sizeA Tryz.prog 4 = some 1 := by kernel_rfl
theorem aB : isAggA Tryz.prog 4 = some false := by kernel_rfl
theorem aY : isAggA Tryz.prog 30 = some false := by kernel_rfl
theorem aSn : isAggA Tryz.prog 210 = some true := by kernel_rfl
theorem zSn : sizeA Tryz.prog 210 = some 2 := by kernel_rfl
theorem aEn : isAggA Tryz.prog 197 = some true := by kernel_rfl
theorem idxE (b n i : Nat) (h : i < n) : indexAddrA Tryz.prog 138 (.slice b 0 n n) (i64 (Int.ofNat i)) = some (.ptr b (i * 6)) := by
  simp only [indexAddrA, i64, uE, zE]
  rw [if_pos ⟨Int.natCast_nonneg i, by simp only [Int.ofNat_eq_natCast]; omega⟩]
  simp
theorem idxB (b n i : Nat) (h : i < n) : indexAddrA Tryz.prog 246 (.slice b 0 n n) (i64 (Int.ofNat i)) = some (.ptr b i) := by
  simp only [indexAddrA, i64, uB, zB]
  rw [if_pos ⟨Int.natCast_nonneg i, by simp only [Int.ofNat_eq_natCast]; omega⟩]
  simp
theorem entsC_drop : ∀ (L : List Ent) (i : Nat) (h : i < L.length), ∃ l', (entsC L).drop (i * 6) = entC L[i] ++ l'
  | [], _, h => by simp at h
  | e :: L, 0, _ => ⟨entsC L, rfl⟩
  | e :: L, i + 1, h => by
    have h' : i < L.length := by simpa using h
    obtain ⟨l', hl⟩ := entsC_drop L i h'
    refine ⟨l', ?_⟩
    show (entC e ++ entsC L).drop ((i + 1) * 6) = entC L[i] ++ l'
    rw [List.drop_append, List.drop_eq_nil_of_le (show (entC e).length ≤ _ by show 6 ≤ _; omega), List.nil_append, ← hl]
    congr 1
    show (i + 1) * 6 - 6 = _
    omega
theorem ldE {s : AS} {L : List Ent} {b i : Nat} (h : i < L.length) (hs : s.get b = some (.cells false (entsC L))) : loadA Tryz.prog s 197 (.ptr b (i * 6)) = some (.agg (ent6 (Int.ofNat L[i].z) L[i].g L[i].b L[i].e L[i].r)) := by
  obtain ⟨l', hl⟩ := entsC_drop L i h
  simp only [loadA, aEn, zE, readA, hs, hl]
  rfl
theorem ldSn {s : AS} {b p : Nat} {cs : List AV} (hs : s.get b = some (.cells false cs)) (h : ∃ a c, cs.drop 5 = .slice p 0 4 4 :: u64 0 :: a ∧ c = a) : loadA Tryz.prog s 210 (.ptr b 5) = some (.agg [.slice p 0 4 4, u64 0]) := by
  obtain ⟨a, _, h, _⟩ := h
  simp only [loadA, aSn, zSn, readA, hs, h]
  rfl
theorem idn {bs bs' bs'' : List (Nat × AObj)} {π π1 π2 : Nat → Nat} {s s1 s2 : AS} (h1 : Moved 24 bs bs' π π1 (fun c => c) s s1) (h2 : Moved 24 bs' bs'' π1 π2 (fun c => c) s1 s2) : Moved 24 bs bs'' π π2 (fun c => c) s s2 := h1.comp h2 fun _ _ _ => ⟨rfl, rfl⟩
theorem Moved.refl' (nx0 : Nat) (bs : List (Nat × AObj)) (π : Nat → Nat) (s : AS) : Moved nx0 bs bs π π (fun c => c) s s := ⟨fun b hb => .inl ⟨b, hb, rfl⟩, fun _ _ _ => rfl, fun _ _ _ => rfl, Nat.le_refl _⟩
def bools (l : List Bool) : List AV := l.map AV.bool
/-- What the loop works on; X is the rest. -/
def lpB (most y m : Nat) (L : List Ent) (M : PM) (B : List AV) (X : List (Nat × AObj)) : List (Nat × AObj) := (memP M ++ [(9, scO most nLd y m sN .nilSlice .nilSlice), (14, .cells false Z40), (22, .cells false (entsC L))]) ++ (23, .cells false B) :: X
theorem bools_names (p : Nat → Bool) : ∀ l : List Bool, namess p (bools l) = true
  | [] => rfl
  | _ :: l => bools_names p l
theorem bools_rep (n : Nat) : List.replicate n (AV.bool false) = bools (List.replicate n false) := by
  unfold bools
  rw [List.map_replicate]
theorem bools_app (a b : List Bool) : bools (a ++ b) = bools a ++ bools b := List.map_append
theorem set_mid (pre : List Bool) (n : Nat) (v : Bool) : (bools pre ++ List.replicate (n + 1) (AV.bool false)).set pre.length (.bool v) = bools (pre ++ [v]) ++ List.replicate n (.bool false) := by
  rw [List.set_append, if_neg (by unfold bools; simp), bools_app]
  have : (bools pre).length = pre.length := by unfold bools; simp
  rw [this, Nat.sub_self, List.replicate_succ, List.set_cons_zero, List.append_assoc]
  rfl
/-- May an entry go, in the loop. -/
theorem may_lp {most y m h : Nat} {L : List Ent} {M : PM} {X : List (Nat × AObj)} {l : List Bool} {z : Int} {g b e r : Nat} {v : Bool} (hX : eachX (fun b o => b < 24 ∧ o.names (fun c => Nat.blt c 24) = true ∧ b ∉ [7, 8, 9, 14, 22, 23]) X) (hv : SF 127 (aM z g b e r h y) (.bool v) M M [(14, .cells false Z40)] [(14, .cells false Z40)] (kl [])) :
    StepF Tryz.prog GF 24 127 (aM z g b e r h y) (.bool v) (lpB most y m L M (bools l) X) (lpB most y m L M (bools l) X) (fun c => c) := by
  have nm : ∀ {o : AObj}, o.names (fun c => Nat.blt c 24) = true → o.names (fun c => Nat.blt c 24 && Nat.beq (kl [] c) c) = true := fun h => onames_sub (fun c hc => by rw [hc]; exact Nat.beq_refl c) h
  have hf := StepF.frame hv ([(9, scO most nLd y m sN .nilSlice .nilSlice), (22, .cells false (entsC L)), (23, .cells false (bools l))] ++ X) (fun x hx => ⟨by have := (gz x hx).1; omega, rfl⟩) (eachX_all fun x hx => by
    rcases List.mem_append.1 hx with hx | hx
    · simp only [List.mem_cons, List.not_mem_nil, or_false] at hx
      rcases hx with rfl | rfl | rfl
      · exact ⟨show 9 < 24 by decide, rfl, nm rfl, by simp [memP]⟩
      · exact ⟨show 22 < 24 by decide, rfl, entsC_names _ L, by simp [memP]⟩
      · exact ⟨show 23 < 24 by decide, rfl, bools_names _ l, by simp [memP]⟩
    · obtain ⟨h1, h2, h3⟩ := eachX_mem hX x hx
      refine ⟨h1, rfl, nm h2, fun hm => h3 ?_⟩
      simp only [memP, List.map_append, List.map_cons, List.map_nil, List.mem_append, List.mem_cons, List.not_mem_nil, or_false] at hm ⊢
      omega)
  exact hf.use (fun x hx => by
    simp only [lpB, List.mem_append, List.mem_cons, List.not_mem_nil, or_false] at hx ⊢
    grind) (fun x hx => by
    simp only [lpB, List.mem_append, List.mem_cons, List.not_mem_nil, or_false] at hx ⊢
    grind)
theorem lp_all {most y m h : Nat} {L : List Ent} {M : PM} {X : List (Nat × AObj)} (hh : h < 18446744073709551616) (hE : ∀ e ∈ L, e.e < 18446744073709551616) (hl : L.length < 1000)
    (hX : eachX (fun b o => b < 24 ∧ o.names (fun c => Nat.blt c 24) = true ∧ b ∉ [7, 8, 9, 14, 22, 23]) X) : ∀ (d i : Nat) (pre : List Bool) (s : AS) (π : Nat → Nat) (j : Nat → AV), L.length - i = d → pre.length = i → i ≤ L.length → At Tryz.prog (lpB most y m L M (bools pre ++ List.replicate (L.length - i) (.bool false)) X) GF s π →
    ∃ vs s' π' j', vs.length = L.length ∧ Sound Tryz.prog (.code (.loop cL1) (TS (π 9) h (π 22) (π 23) L.length i j) s) ⟨.exit 0, TS (π 9) h (π 22) (π 23) L.length L.length j', s'⟩ ∧ At Tryz.prog (lpB most y m L M (bools vs) X) GF s' π' ∧ Moved 24 (lpB most y m L M (bools pre ++ List.replicate (L.length - i) (.bool false)) X) (lpB most y m L M (bools vs) X) π π' (fun c => c) s s' := by
  intro d
  induction d with
  | zero =>
    intro i pre s π j hd hp hi A
    obtain rfl : i = L.length := by omega
    obtain ⟨j', hs⟩ := run_T (lp_end s (π 9) h (π 22) (π 23) L.length L.length j) ⟨by rw [Qst.ok, show decide (Int.ofNat L.length < Int.ofNat L.length) = false from decide_eq_false (by omega)], trivial⟩
    rw [Nat.sub_self, List.replicate_zero, List.append_nil] at A ⊢
    exact ⟨pre, s, π, j', hp, loop_stop hs (by simp), A, Moved.refl' _ _ _ _⟩
  | succ d ih =>
    intro i pre s π j hd hp hi A
    have hlt : i < L.length := by omega
    obtain ⟨v, hv⟩ := may_step (Int.ofNat L[i].z) L[i].g L[i].b L[i].e L[i].r h y (hE _ (List.getElem_mem hlt)) hh M
    have eB : bools pre ++ List.replicate (L.length - i) (.bool false) = bools (pre ++ List.replicate (L.length - i) false) := by rw [bools_app, bools_rep]
    have A' := A
    rw [eB] at A'
    obtain ⟨s1, π1, hS, A1, Mv⟩ := may_lp hX hv s π A'
    rw [← eB] at A1 Mv
    have p9 : π1 9 = π 9 := Mv.low 9 (by decide) rfl
    have p22 : π1 22 = π 22 := Mv.low 22 (by decide) rfl
    have p23 : π1 23 = π 23 := Mv.low 23 (by decide) rfl
    have g9 := at_g A (b := 9) (o := scO most nLd y m sN .nilSlice .nilSlice) (by simp [lpB])
    have g22 := at_g A (b := 22) (o := .cells false (entsC L)) (by simp [lpB])
    have g23 := at_g A1 (b := 23) (o := .cells false (bools pre ++ List.replicate (L.length - i) (.bool false))) (by simp [lpB])
    rw [raw_ren (show (AObj.cells false (entsC L)).names (fun _ => false) = true from entsC_names _ L)] at g22
    rw [raw_ren (show (AObj.cells false (bools pre ++ List.replicate (L.length - i) (.bool false))).names (fun _ => false) = true by rw [eB]; exact bools_names _ _)] at g23
    obtain ⟨s2, e1, e2, e3⟩ := st_one (P := Tryz.prog) (t := 4) (o := i) (v := .bool v) zB rfl rfl g23 (by rw [eB]; unfold bools; simp only [List.length_map, List.length_append, List.length_replicate]; omega)
    rw [show L.length - i = (L.length - (i + 1)) + 1 by omega, ← hp, set_mid pre, hp] at e2
    have eB2 : bools (pre ++ [v]) ++ List.replicate (L.length - (i + 1)) (.bool false) = bools (pre ++ [v] ++ List.replicate (L.length - (i + 1)) false) := by rw [bools_rep, ← bools_app]
    obtain ⟨A2, Mv2⟩ := At.put (nx0 := 24) (o' := .cells false (bools (pre ++ [v]) ++ List.replicate (L.length - (i + 1)) (.bool false))) A1 (fun hm => by
      rw [List.map_append, List.mem_append] at hm
      rcases hm with hm | hm
      · simp [memP] at hm
      · obtain ⟨x, hx, e⟩ := List.mem_map.1 hm
        have := (eachX_mem hX x hx).2.2
        rw [e] at this
        simp at this) (by rw [raw_ren (show (AObj.cells false (bools (pre ++ [v]) ++ List.replicate (L.length - (i + 1)) (.bool false))).names (fun _ => false) = true by rw [eB2]; exact bools_names _ _)]; exact e2) e3
    have hS : Sound Tryz.prog (.call 127 [.agg (ent6 (Int.ofNat L[i].z) L[i].g L[i].b L[i].e L[i].r), u8 y, .agg [.slice (π 14) 0 4 4, u64 0], u64 h] s) ⟨.ret, [.bool v], s1⟩ := hS
    rw [p23] at e1
    have ldY : loadA Tryz.prog s 30 (.ptr (π 9) 3) = some (u8 y) := ld_cell aY g9 rfl
    have ldS : loadA Tryz.prog s 210 (.ptr (π 9) 5) = some (.agg [.slice (π 14) 0 4 4, u64 0]) := ldSn g9 ⟨_, _, rfl, rfl⟩
    have ldI := ldE hlt g22
    obtain ⟨j', hs⟩ := run_T (lp_go s s1 s2 (π 9) (π 14) h (π 22) (π 23) L.length i (i * 6) y (Int.ofNat L[i].z) L[i].g L[i].b L[i].e L[i].r j v) ⟨by rw [Qst.ok, show decide (Int.ofNat i < Int.ofNat L.length) = true from decide_eq_true (by simp only [Int.ofNat_eq_natCast]; omega)], idxE _ _ _ hlt, ldI, ldY, ldS, hS, idxB _ _ _ hlt, ⟨e1, rfl⟩, ldS, ldY, ldI, by
      rw [Qst.ok, i64_wrap (by simp only [Int.ofNat_eq_natCast]; omega) (by simp only [Int.ofNat_eq_natCast]; omega)]
      rfl, trivial⟩
    obtain ⟨vs, s3, π3, j3, k1, k2, k3, k4⟩ := ih (i + 1) (pre ++ [v]) s2 π1 j' (by omega) (by simp [hp]) hlt A2
    rw [p9, p22, p23] at k2
    exact ⟨vs, s3, π3, j3, k1, loop_next hs k2, k3, idn (idn Mv Mv2) k4⟩
end Go.Proofs.YtofbdgmknfbkfaaGreatDoor.nodesLife
namespace Go.Proofs.YtofbdgmknfbkfaaGreatDoor.nodesLife
open Go Go.Mini
/-! ### List.Sweep's loop, run -/
def TW (p11 p12 gb n i : Nat) (ov lv : AV) (j : Nat → AV) : List AV := [.ptr p11 0, .slice gb 0 n n, j 2, j 3, j 4, ov, lv, j 7, j 8, j 9, j 10, j 11, j 12, j 13, .osl p12 0 n 6, i64 (Int.ofNat n), i64 (Int.ofNat i), j 17, j 18, j 19, j 20, j 21, j 22, j 23, j 24, j 25, j 26, j 27, j 28, j 29, j 30, j 31, j 32, j 33, j 34, j 35, j 36, j 37, j 38, j 39, j 40, j 41, j 42, j 43, j 44, j 45, j 46, j 47, j 48, j 49, j 50, j 51]
noncomputable def cL2 : Code := loopAt Tryz.prog 128 0
def Z6 : AObj := .cells false [i64 0, u32 0, .bool false, u64 0, u64 0, u64 0]
def E6 (z : Int) (g b e r : Nat) : AObj := .cells false (ent6 z g b e r)
section
variable (s sb s1 s3 : AS) (p11 p12 gb n i k : Nat) (z : Int) (g b e r : Nat) (ov lv hv nv : AV) (j : Nat → AV)
def ltD : List Dec := [.val 128 5 0 (.bool true), .val 128 6 1 (.ptr p12 k), .val 128 6 2 (.agg (ent6 z g b e r)), .eff 128 6 3 (.ptr s.nx 0) (fun _ => s.push Z6), .eff 128 6 5 undefA (fun _ => sb), .val 128 7 3 (.bool true), .val 128 7 7 (.ptr gb i), .val 128 7 8 (.bool true), .skip 128 8 999, .val 128 8 3 hv, .val 128 8 5 (refA z g), .eff 128 8 6 undefA (fun _ => s1), .val 128 9 1 (.agg (ent6 z g b e r)), .eff 128 9 2 (.slice s1.nx 0 1 1) (fun _ => s1.push (E6 z g b e r)), .eff 128 9 3 nv (fun _ => s3), .val 128 11 0 (i64 (Int.ofNat (i + 1)))]
def lfD : List Dec := [.val 128 5 0 (.bool true), .val 128 6 1 (.ptr p12 k), .val 128 6 2 (.agg (ent6 z g b e r)), .eff 128 6 3 (.ptr s.nx 0) (fun _ => s.push Z6), .eff 128 6 5 undefA (fun _ => sb), .val 128 7 3 (.bool true), .val 128 7 7 (.ptr gb i), .val 128 7 8 (.bool false), .val 128 10 1 (.agg (ent6 z g b e r)), .eff 128 10 2 (.slice sb.nx 0 1 1) (fun _ => sb.push (E6 z g b e r)), .eff 128 10 3 nv (fun _ => s3), .val 128 11 0 (i64 (Int.ofNat (i + 1)))]
theorem ls_t : rL 128 cL2 (TW p11 p12 gb n i ov lv j) s (ltD s sb s1 s3 p12 gb i k z g b e r hv nv) = rR 128 cL2 (TW p11 p12 gb n i ov lv j) s (ltD s sb s1 s3 p12 gb i k z g b e r hv nv) (TW p11 p12 gb n (i + 1) nv lv) .normal s3
  ([.val (some (.bool (decide (Int.ofNat i < Int.ofNat n)))) (.bool true), .idx 138 (.osl p12 0 n 6) (i64 (Int.ofNat i)) (.ptr p12 k), .ld 197 s (.ptr p12 k) (.agg (ent6 z g b e r)), .out (some (.val (.ptr s.nx 0) (s.push Z6))) (.ptr s.nx 0) (s.push Z6), .sto (s.push Z6) 197 (.ptr s.nx 0) (.agg (ent6 z g b e r)) undefA sb, .val (some (.bool (decide (Int.ofNat i < Int.ofNat n)))) (.bool true), .idx 246 (.slice gb 0 n n) (i64 (Int.ofNat i)) (.ptr gb i), .ld 4 sb (.ptr gb i) (.bool true), .ld 191 sb (.ptr p11 1) hv, .ld 74 sb (.ptr s.nx 0) (refA z g), .del sb 191 hv (refA z g) undefA s1, .ld 74 sb (.ptr s.nx 0) (refA z g), .ld 191 sb (.ptr p11 1) hv, .ld 197 s1 (.ptr s.nx 0) (.agg (ent6 z g b e r)),
   .out (some (.val (.slice s1.nx 0 1 1) (s1.push (E6 z g b e r)))) (.slice s1.nx 0 1 1) (s1.push (E6 z g b e r)), .app (s1.push (E6 z g b e r)) 138 138 ov (.slice s1.nx 0 1 1) nv s3, .val (some (.int .i64 (IntKind.i64.wrap (Int.ofNat (i + 1))))) (i64 (Int.ofNat (i + 1)))]) := by kernel_rfl
theorem ls_f : rL 128 cL2 (TW p11 p12 gb n i ov lv j) s (lfD s sb s3 p12 gb i k z g b e r nv) = rR 128 cL2 (TW p11 p12 gb n i ov lv j) s (lfD s sb s3 p12 gb i k z g b e r nv) (TW p11 p12 gb n (i + 1) ov nv) .normal s3
  ([.val (some (.bool (decide (Int.ofNat i < Int.ofNat n)))) (.bool true), .idx 138 (.osl p12 0 n 6) (i64 (Int.ofNat i)) (.ptr p12 k), .ld 197 s (.ptr p12 k) (.agg (ent6 z g b e r)), .out (some (.val (.ptr s.nx 0) (s.push Z6))) (.ptr s.nx 0) (s.push Z6), .sto (s.push Z6) 197 (.ptr s.nx 0) (.agg (ent6 z g b e r)) undefA sb, .val (some (.bool (decide (Int.ofNat i < Int.ofNat n)))) (.bool true), .idx 246 (.slice gb 0 n n) (i64 (Int.ofNat i)) (.ptr gb i), .ld 4 sb (.ptr gb i) (.bool false), .ld 197 sb (.ptr s.nx 0) (.agg (ent6 z g b e r)),
   .out (some (.val (.slice sb.nx 0 1 1) (sb.push (E6 z g b e r)))) (.slice sb.nx 0 1 1) (sb.push (E6 z g b e r)), .app (sb.push (E6 z g b e r)) 138 138 lv (.slice sb.nx 0 1 1) nv s3, .val (some (.int .i64 (IntKind.i64.wrap (Int.ofNat (i + 1))))) (i64 (Int.ofNat (i + 1)))]) := by kernel_rfl
def leD : List Dec := [.val 128 5 0 (.bool false)]
theorem ls_e : rL 128 cL2 (TW p11 p12 gb n i ov lv j) s leD = rR 128 cL2 (TW p11 p12 gb n i ov lv j) s leD (TW p11 p12 gb n i ov lv) (.exit 0) s [.val (some (.bool (decide (Int.ofNat i < Int.ofNat n)))) (.bool false)] := by kernel_rfl
end
end Go.Proofs.YtofbdgmknfbkfaaGreatDoor.nodesLife
