/- slices.Sorted of the keys of a map; What an operation does, and that both states say the same; The law SpecsDo; What an operation of a State does; What an operation of the document does. Conditions: those that each theorem names, and no others. -/
import Derived.RangeFuncGives
import Derived.RangeFuncBound
import Derived.RangeFuncSeq
import Derived.Sort.MapsRangeIn
import Derived.Sort.KeysCollected
import Derived.WalkKit
import Derived.OwnWalkIn
import Derived.TacticsInMore
import Derived.RegionIn
import Derived.LoopNIn
import Derived.LoopIn
import Derived.Maps.AppendAt
import Derived.Shelf.Abstract
import Derived.Test.YthooafgfpnedhaaChecked
import Derived.Test.YthooafgfpnedhaaMini3
import Derived.Test.YthooafgfpnedhaaDoing1
namespace Go.Proofs.Ythooafgfpnedhaa.specsDo
open Go Go.Proofs Go.RowKit Go.Maps Go.Sort Go.Shelf
abbrev encU (x : Int) : Value := .int .u64 x
theorem encU_inj {x y : Int} (h : encU x = encU y) : x = y := by simpa using h
theorem law22 : Keyed Try.prog 22 := int_keyed Try.underlying22
theorem keyOf_u {P : Program} {k : TypeId} (hk : P.underlying k = some (.int .u64)) {key : Value} {kl : Lit} (h : keyOf P k key = some kl) : ∃ x : Int, key = encU x ∧ kl = .int .u64 x ∧ True := by
  cases key <;> simp [keyOf, hk, mapKey] at h
  rename_i q n
  obtain ⟨⟨rfl, _⟩, rfl⟩ := h
  exact ⟨n, rfl, rfl, trivial⟩
/-- The keys that have come. -/
def CollU {H : Type} (D0 : DataW H) (left : Lit → Bool) (ss : List Int) : Prop := ss.Nodup ∧ ∀ x, x ∈ ss ↔ (has D0 (.int .u64 x) = true ∧ left (.int .u64 x) = false)
/-- They are all of the map's, each once. -/
def KeysU {H : Type} (D0 : DataW H) (ss : List Int) : Prop := ss.Nodup ∧ ∀ x, x ∈ ss ↔ has D0 (.int .u64 x) = true
section
variable {H : Type} {D0 : DataW H} {left : Lit → Bool} {ss : List Int}
theorem CollU.start (D0 : DataW H) : CollU D0 (has D0) [] := ⟨List.nodup_nil, fun x => by cases has D0 (.int .u64 x) <;> simp⟩
theorem CollU.step (h : CollU D0 left ss) {x : Int} {y : DataW H} (hlk : left (.int .u64 x) = true) (hat : ∀ zd, D0.atKey (.int .u64 x) zd = y) : CollU D0 (fun z => left z && !z.sameKey (.int .u64 x)) (ss ++ [x]) := by
  have hhas : has D0 (.int .u64 x) = true := has_true_of_atKey hat
  have hnew : x ∉ ss := fun hx => by have := ((h.2 x).1 hx).2; rw [hlk] at this; cases this
  refine ⟨List.nodup_append.2 ⟨h.1, by simp, fun a ha b hb e => ?_⟩, fun y => ?_⟩
  · have hb : b = x := by simpa using hb
    exact hnew (by rw [← hb, ← e]; exact ha)
  · by_cases hy : y = x
    · subst hy; simp [hhas, Lit.sameKey]
    · simp [h.2 y, hy, Lit.sameKey]
theorem CollU.done (h : CollU D0 left ss) (hl : ∀ kl, left kl = false) : KeysU D0 ss := ⟨h.1, fun x => by rw [h.2 x, hl]; simp⟩
end
set_option maxRecDepth 100000 in
set_option maxHeartbeats 1000000 in
theorem keys1N_in {H : Type} (F : Fence) (n : Nat) (h10 : F.fn 55) (hro : F.round = none) (hn : 1 ≤ n) (l Bm Bo b nn : Nat) (D0 : DataW H) (J : List Int → World → Prop)
    (hY : ∀ pre x W, J pre W → pre.length < Maps.size D0 → YieldAt F (n - 1) Try.prog l #[encU x] W fun e W' => e = .returned (.bool true) ∧ J (pre ++ [x]) W' ∧ KeepsWalks W W')
    (W : World) (hJ : AbidesFrom W.heap.size J) (hm : W.cell? ⟨Bm, Bo, none⟩ = some (.map (some b))) (hown : W.ownsMap Try.prog 22 (plainElem Try.prog 22) b nn D0) (h0 : J [] W) :
    CallsIn F n Try.prog 55 #[.func (.yield l) #[] #[], .pointer (some ⟨Bm, Bo, none⟩)] W fun e W' => (∃ v, e = .returned v) ∧ ∃ ss : List Int, KeysU D0 ss ∧ J ss W' := by
  refine callsIn_of_wp Try.func55 rfl h10 ?_ hro
  simp only [Try.ntmps55, List.size_toArray, List.length_cons, List.length_nil, Nat.reduceAdd, Nat.reduceSub, Array.replicate_succ, Array.replicate_zero, List.push_toArray, List.append_toArray, List.nil_append, List.cons_append]
  gi_wp2_with (first
    | (gi_at_range; refine wpListIn_range_own _ rfl _ 34 rfl 22 22 law22 Try.underlying34 _ b nn _ rfl hown ?_; intro w0 hrg0 hg0 hs0)
    | gi_in)
  go_frame
  gi_loopw [3] (fun _ wr => ∃ (left : Lit → Bool) (cnt : Nat) (ss : List Int), wr.ranges Try.prog 22 (plainElem Try.prog 22) b W.heap.size nn D0 left cnt ∧ ss.length + cnt ≤ Maps.size D0 ∧ CollU D0 left ss ∧ J ss wr)
    (fun _ wr => wr.rangeLeft b W.heap.size)
  case atStart =>
    exact ⟨_, _, [], hrg0, by simp, CollU.start D0, hJ [] W w0 none h0 hg0 (fun r e => by cases e)⟩
  case round =>
    obtain ⟨left, cnt, ss, hrg, hcs, hC, hJs⟩ := hrel
    gi_wp2_with (first
      | (gi_at_next; refine wpListIn_next_ranges _ rfl _ rfl 22 law22 (plainElem Try.prog 22) encU (Value.int .u64) (fun key kl hk => by obtain ⟨x, hx, _⟩ := keyOf_u Try.underlying22 hk; exact ⟨x, hx⟩) (fun v y hv => by obtain ⟨c, rfl, _⟩ := plainElem_int_inv Try.underlying22 hv; exact ⟨c, rfl⟩) b W.heap.size nn _ _ _ rfl hrg ?_ ?_)
      | gi_in)
    · -- NOTHING IS LEFT
      intro hc0 hl0
      gi_wp2
      go_end0
      exact ⟨⟨_, rfl⟩, ss, hC.done hl0, hJs⟩
    · -- AN ENTRY HAS COME: yield(k)
      intro x c kl yd yp w2 cnt2 hkey hlk hv hat hrg2 hlt hg2 hs2 hen
      obtain ⟨x', ex, rfl, _⟩ := keyOf_u Try.underlying22 hkey
      obtain rfl : x = x' := encU_inj ex
      have hJ2 : J ss w2 := hJ ss wr w2 (some W.heap.size) hJs hg2 (fun r e => by cases e; exact ⟨Nat.le_refl _, hrg.iter_walk⟩)
      obtain ⟨fn, tmps, assign, body, hy, hR⟩ := hY ss x w2 hJ2 (by omega)
      clear hs2
      gi_wp2
      refine hR.mono ?_
      rintro e W3 ⟨rfl, hJ3, hk3⟩
      gi_wp2
      have hrg3 := hrg2.of_walks hk3
      go_roundw
      case rel => exact ⟨_, cnt2, ss ++ [x], hrg3, by simp; omega, hC.step hlk hat, hJ3⟩
      case measure => rw [hrg3.left_eq, hrg.left_eq]; exact hlt


theorem keys_gives {H : Type} (F : Fence) (n : Nat) (h10 : F.fn 55) (hro : F.round = none) (hn : 1 ≤ n) (Bm Bo b nn : Nat) (D0 : DataW H) (w : World) (hBm : Bm < w.heap.size)
    (hm : w.cell? ⟨Bm, Bo, none⟩ = some (.map (some b))) (hown : w.ownsMap Try.prog 22 (plainElem Try.prog 22) b nn D0) :
    SeqGives F n Try.prog 55 #[.pointer (some ⟨Bm, Bo, none⟩)] encU (fun ss => KeysU D0 ss) (Maps.size D0) w := fun l J W hW hJ hY h0 => by
  have hown' : W.ownsMap Try.prog 22 (plainElem Try.prog 22) b nn D0 := by
    have hbl := hown.lt
    obtain ⟨es, clock, hb, Ft, hs, hD⟩ := hown
    exact ⟨es, clock, (hW.block b hbl).trans hb, Ft, hs, hD⟩
  exact keys1N_in F n h10 hro hn l Bm Bo b nn D0 J hY W hJ ((hW.cell (p := ⟨Bm, Bo, none⟩) hBm).trans hm) hown' h0



def apAssign : Code := (Code.region 2 #[{ dst := some 5, op := Op.assign (Operand.tmp 7), type := 22, pos := "iter.go:51", after := #[], guard := none }] false)
def apBody : Code := (Code.block 1 (Code.region 3 #[{ dst := some 8, op := Op.load 30 (Operand.tmp 2), type := 30, pos := "iter.go:52", after := #[], guard := none }, { dst := some 9, op := Op.move (Operand.tmp 5), type := 22, pos := "iter.go:52", after := #[], guard := none }, { dst := some 10, op := Op.buildSlice 30 1 #[(0, Operand.tmp 9)], type := 30, pos := "iter.go:52", after := #[{ on := 1, ground := Ground.data }], guard := none }, { dst := some 11, op := Op.call { callee := Callee.builtin Builtin.append, args := #[Operand.tmp 8, Operand.tmp 10], argTypes := #[30, 30] }, type := 30, pos := "iter.go:52", after := #[{ on := 0, ground := Ground.data }, { on := 2, ground := Ground.data }], guard := none }, { dst := none, op := Op.store 30 (Operand.tmp 2) (Operand.tmp 11), type := 0, pos := "iter.go:52", after := #[{ on := 3, ground := Ground.data }, { on := 3, ground := Ground.chain }, { on := 0, ground := Ground.phase }, { on := 1, ground := Ground.phase }, { on := 2, ground := Ground.phase }, { on := 3, ground := Ground.phase }], guard := none }] false))
def apRec (fn : FuncId) (sv : Value) (Bs D : Nat) (st : LoopState) (pend : Option Code) : Loop :=
  { state := st, pending := pend, fn, tmps := #[.slice none 0 0, sv, .pointer (some ⟨Bs, 0, none⟩), undef, .slice none 0 0, undef, sv, undef, undef, undef, undef, undef, undef], params := #[7], assign := apAssign, body := apBody, defers := D }

structure ApAt (w0 : World) (fn : FuncId) (sv : Value) (Bs l D : Nat) (ss : List Int) (W : World) : Prop where
  box : ∃ v, W.heap[Bs]? = some (.cells #[v] 30 (0, 0)) ∧ W.ownsRow w0.heap.size 22 1 v ss.length (ss.map encU) ∧ (v = .slice none 0 0 ↔ ss = [])
  L : W.heap[l]? = some (.loop (apRec fn sv Bs D .ready none))
  K : W.heap[D]? = some (.deferred (some []))
  below : Below w0.heap.size w0 W

theorem ownsRow_abides {W W' : World} {row : Option Nat} {base : Nat} {e : TypeId} {size : Nat} {v : Value} {k : Nat} {xs : List Value} (h : W.ownsRow base e size v k xs) (hg : W.grownBy W' row)
    (hrow : ∀ r, row = some r → ∃ o : Obj, W.heap[r]? = some o ∧ o.isWalk = true) : W'.ownsRow base e size v k xs := by
  refine h.kept hg ?_
  rcases h.2 with ⟨rfl, _⟩ | ⟨g, cap, cur, rfl, _, hgb, _⟩
  · exact .inl rfl
  · refine .inr fun e' => ?_
    obtain ⟨o, ho, hw⟩ := hrow g (by simpa [Value.ownBlock] using e'.symm)
    rw [hgb] at ho; cases ho; cases hw

theorem ap_abides (w0 : World) (fn : FuncId) (sv : Value) (Bs l D B : Nat) (hB : w0.heap.size ≤ B) : AbidesFrom B (ApAt w0 fn sv Bs l D) := fun s W W' row h hg hrow => by
  have hrow' : ∀ r, row = some r → ∃ o : Obj, W.heap[r]? = some o ∧ o.isWalk = true := fun r e => (hrow r e).2
  obtain ⟨v, hv, hr, hn⟩ := h.box
  exact ⟨⟨v, (grownBy_keeps hg hrow' hv rfl).trans hv, ownsRow_abides hr hg hrow', hn⟩, (grownBy_keeps hg hrow' h.L rfl).trans h.L, (grownBy_keeps hg hrow' h.K rfl).trans h.K,
    h.below.grown hg h.below.size (fun k e => Nat.le_trans hB (hrow k e).1)⟩

theorem grownBy_putObj (W : World) (l : Nat) (o : Obj) : W.grownBy (W.putObj l o) (some l) :=
  ⟨rfl, rfl, rfl, by simp, fun k _ hk => World.putObj_heap_other (fun e => hk (by rw [e]))⟩
theorem grownBy_setCell0 (W : World) (b : Nat) (v : Value) : W.grownBy (W.setCell ⟨b, 0, none⟩ v) (some b) :=
  ⟨rfl, rfl, rfl, (KeepsWalks.setCell W _ v).size, fun k _ hk => Below.heap_setCell _ _ _ k (fun e => hk (by rw [e]))⟩
theorem ownsRow_ne {W : World} {base : Nat} {e : TypeId} {size : Nat} {v : Value} {k : Nat} {xs : List Value} (h : W.ownsRow base e size v k xs) {j : Nat} {o : Obj} (hj : W.heap[j]? = some o) (hno : ∀ cur, o ≠ .cells cur e (0, 0)) :
    v.ownBlock = none ∨ v.ownBlock ≠ some j := by
  rcases h.2 with ⟨rfl, _⟩ | ⟨g, cap, cur, rfl, _, hgb, _⟩
  · exact .inl rfl
  · refine .inr fun e' => ?_
    have : g = j := by simpa [Value.ownBlock] using e'
    subst this; rw [hgb] at hj; cases hj; exact hno cur rfl
theorem cell_of_box {W : World} {B : Nat} {v : Value} {t : TypeId} (h : W.heap[B]? = some (.cells #[v] t (0, 0))) : W.cell? ⟨B, 0, none⟩ = some v ∧ W.frozen? ⟨B, 0, none⟩ = false := by
  constructor <;> simp [World.cell?, World.frozen?, h]

theorem heap_setCell_box {W : World} {B : Nat} {v : Value} {t : TypeId} (v' : Value) (h : W.heap[B]? = some (.cells #[v] t (0, 0))) : (W.setCell ⟨B, 0, none⟩ v').heap[B]? = some (.cells #[v'] t (0, 0)) := by
  obtain ⟨hlt, hk⟩ := Array.getElem?_eq_some_iff.1 h
  show (W.heap.modify B _)[B]? = _
  rw [Array.getElem?_eq_getElem (by rw [Array.size_modify]; exact hlt), Array.getElem_modify_self, hk]
  rfl
theorem ownsRow_not_walk {W : World} {base : Nat} {e : TypeId} {size : Nat} {v : Value} {k : Nat} {xs : List Value} (h : W.ownsRow base e size v k xs) : ∀ (j : Nat) (o : Obj), v.ownBlock = some j → W.heap[j]? = some o → o.isWalk = false := by
  intro j o hj ho
  rcases h.2 with ⟨rfl, _⟩ | ⟨g, cap, cur, rfl, _, hgb, _⟩
  · simp [Value.ownBlock] at hj
  · have : g = j := by simpa [Value.ownBlock] using hj
    subst this; rw [hgb] at ho; cases ho; rfl

theorem info22 : (Try.prog.info? 22).map (fun i => (i.zero, i.size, i.bytes)) = some (some (.int .u64 0), 1, 8) := by kernel_rfl

set_option maxRecDepth 100000 in
set_option maxHeartbeats 2000000 in
theorem apYield (F : Fence) (m : Nat) (w0 : World) (fn : FuncId) (hfn : F.fn fn) (sv : Value) (Bs l D : Nat) (hBl : Bs ≠ l) (hDl : D ≠ l) (hDB : D ≠ Bs) (h0B : w0.heap.size ≤ Bs) (h0l : w0.heap.size ≤ l)
    (N : Nat) (hN : N ≤ maxLen) (hNb : N * 8 ≤ 140737488355328) (ss : List Int) (x : Int) (W : World) (h : ApAt w0 fn sv Bs l D ss W) (hlen : ss.length < N) :
    YieldAt F m Try.prog l #[encU x] W fun e W' => e = .returned (.bool true) ∧ ApAt w0 fn sv Bs l D (ss ++ [x]) W' ∧ KeepsWalks W W' := by
  obtain ⟨i0, hi, hz0, hz1, hz2⟩ := info_parts info22
  obtain ⟨v, hv, hrow, _⟩ := h.box
  refine ⟨fn, #[.slice none 0 0, sv, .pointer (some ⟨Bs, 0, none⟩), undef, .slice none 0 0, undef, sv, encU x, undef, undef, undef, undef, undef], apAssign, apBody, by simpa [apRec] using run_yield (P := Try.prog) (args := #[encU x]) h.L rfl, roundIn_of_wpIn hfn ?_⟩
  have hl : l < W.heap.size := (Array.getElem?_eq_some_iff.1 h.L).1
  have hbr := run_beginRound (P := Try.prog) h.L rfl
  obtain ⟨W2, hW2⟩ : ∃ W2, W.putObj l (.loop { apRec fn sv Bs D .ready none with state := .busy }) = W2 := ⟨_, rfl⟩
  rw [hW2] at hbr
  have hg2 : W.grownBy W2 (some l) := by rw [← hW2]; exact grownBy_putObj _ _ _
  have hk2 : KeepsWalks W W2 := by rw [← hW2]; exact KeepsWalks.putObj _ h.L rfl
  have hv2 : W2.heap[Bs]? = some (.cells #[v] 30 (0, 0)) := by rw [← hW2]; exact (World.putObj_heap_other hBl).trans hv
  have hK2 : W2.heap[D]? = some (.deferred (some [])) := by rw [← hW2]; exact (World.putObj_heap_other hDl).trans h.K
  have hL2 : W2.heap[l]? = some (.loop { apRec fn sv Bs D .ready none with state := .busy }) := by rw [← hW2]; exact World.putObj_heap_same hl
  have hrow2 : W2.ownsRow w0.heap.size 22 1 v ss.length (ss.map encU) := hrow.kept hg2 (ownsRow_ne hrow h.L (fun cur e => by cases e))
  have hb2 : Below w0.heap.size w0 W2 := h.below.grown hg2 h.below.size (fun k e => by cases e; exact h0l)
  obtain ⟨hc2, hf2⟩ := cell_of_box hv2
  have hBlt : Bs < W2.heap.size := (Array.getElem?_eq_some_iff.1 hv2).1
  have hl2 : l < W2.heap.size := (Array.getElem?_eq_some_iff.1 hL2).1
  have hDlt : D < W2.heap.size := (Array.getElem?_eq_some_iff.1 hK2).1
  have ne_of : ∀ {j : Nat} {o : Obj}, W2.heap[j]? = some o → (∀ cur, o ≠ .cells cur 22 (0, 0)) → some j ≠ v.ownBlock := fun hj hno => by
    rcases ownsRow_ne hrow2 hj hno with e | e
    · rw [e]; simp
    · exact fun e' => e e'.symm
  clear hW2
  unfold apAssign
  gi_wp2_with (rw [Oper.semAt_eq _ _ _ (fun c h => by cases h)]; go_simp; try go_bits)
  unfold apBody
  gi_wp2_with (first
    | (gi_at_builtin; refine wpListIn_append_own _ rfl _ _ 30 rfl w0.heap.size 22 i0 (.int .u64 0) 1 8 Try.underlying30 hi hz0 hz1 hz2 rfl (by decide) _ _ _ rfl (hrow2.alloc _) ⟨W2.heap.size, 0, none⟩ 1 1 [encU x] rfl rfl (cell_one_new _ _ _) (by simp [Value.oneCell', encU]) (by omega) (by omega) (by have := hb2.size; simp; omega) ?_; intro v' w3 hown' hg3 hnil3
       have hv3 : w3.heap[Bs]? = some (.cells #[v] 30 (0, 0)) := (hg3.block Bs (by simp; omega) (ne_of hv2 (fun cur e => by cases e))).trans ((Below.heap_alloc _ _ Bs hBlt).trans hv2)
       obtain ⟨hc3, hf3⟩ := cell_of_box hv3
       obtain ⟨g', cap', cur', rfl, hbase', hgb', hr1, hr2, hr3, hr4⟩ : ∃ g' cap' cur', v' = .slice (some ⟨g', 0, none⟩) (ss.length + 1) cap' ∧ w0.heap.size ≤ g' ∧ w3.heap[g']? = some (.cells cur' 22 (0, 0)) ∧ ss.length + 1 ≤ cap' ∧ cap' ≤ maxLen ∧ cur'.size = cap' * 1 ∧ cur'.toList.take ((ss.length + 1) * 1) = ss.map encU ++ [encU x] := by
         rcases hown'.2 with ⟨_, h0⟩ | h'
         · exact absurd h0 (by omega)
         · exact h'
       go_frame)
    | (rw [Oper.semAt_eq _ _ _ (fun c h => by cases h)]; go_simp; try go_bits))
  have hg3' : (W2.alloc (.cells #[encU x] 22)).grownBy w3 v.ownBlock := hg3
  have hL3 : w3.heap[l]? = some (.loop { apRec fn sv Bs D .ready none with state := .busy }) := (hg3'.block l (by simp; omega) (ne_of hL2 (fun cur e => by cases e))).trans ((Below.heap_alloc _ _ l hl2).trans hL2)
  have hK3 : w3.heap[D]? = some (.deferred (some [])) := (hg3'.block D (by simp; omega) (ne_of hK2 (fun cur e => by cases e))).trans ((Below.heap_alloc _ _ D hDlt).trans hK2)
  obtain ⟨w4, hw4⟩ : ∃ w4, w3.setCell ⟨Bs, 0, none⟩ (.slice (some ⟨g', 0, none⟩) (ss.length + 1) cap') = w4 := ⟨_, rfl⟩
  rw [hw4]
  have hg4 : w3.grownBy w4 (some Bs) := by rw [← hw4]; exact grownBy_setCell0 _ _ _
  have hv4 : w4.heap[Bs]? = some (.cells #[.slice (some ⟨g', 0, none⟩) (ss.length + 1) cap'] 30 (0, 0)) := by rw [← hw4]; exact heap_setCell_box _ hv3
  have hL4 : w4.heap[l]? = some (.loop { apRec fn sv Bs D .ready none with state := .busy }) := (hg4.block l (Array.getElem?_eq_some_iff.1 hL3).1 (fun e => hBl (by cases e; rfl))).trans hL3
  have hK4 : w4.heap[D]? = some (.deferred (some [])) := (hg4.block D (Array.getElem?_eq_some_iff.1 hK3).1 (fun e => hDB (by cases e; rfl))).trans hK3
  have hrow4 := hown'.kept hg4 (ownsRow_ne hown' hv3 (fun cur e => by cases e))
  have hl4 : l < w4.heap.size := (Array.getElem?_eq_some_iff.1 hL4).1
  have hb3 : Below w0.heap.size w0 w3 := (hb2.alloc hb2.size _).grown hg3' (by have := hb2.size; simp; omega) (fun k e => (hrow2.lt k e).1)
  have hb4 : Below w0.heap.size w0 w4 := hb3.grown hg4 hb3.size (fun k e => by cases e; exact h0B)
  have hk4 : KeepsWalks W w4 := ((hk2.trans (KeepsWalks.alloc _ _)).trans (KeepsWalks.of_grownBy hg3' (ownsRow_not_walk (hrow2.alloc _)))).trans (by rw [← hw4]; exact KeepsWalks.setCell _ _ _)
  clear hw4
  refine ⟨_, _, run_endRound none hL4, rfl, ⟨⟨_, (World.putObj_heap_other hBl).trans hv4, ?_, by simp⟩, World.putObj_heap_same hl4, (World.putObj_heap_other hDl).trans hK4, hb4.grown (grownBy_putObj _ _ _) hb4.size (fun k e => by cases e; exact h0l)⟩, hk4.trans (KeepsWalks.putObj _ hL4 rfl)⟩
  have := hrow4.kept (grownBy_putObj w4 l (.loop { { apRec fn sv Bs D .ready none with state := .busy } with state := if (none : Option Code).isNone then .ready else .done, pending := none })) (ownsRow_ne hrow4 hL4 (fun cur e => by cases e))
  simpa using this


set_option maxRecDepth 100000 in
set_option maxHeartbeats 2000000 in
theorem appendSeq_in (F : Fence) (n : Nat) (h11 : F.fn 59) (hro : F.round = none) (hn : 2 ≤ n) (g : Nat) (lb : Array Value) (hFg : F.fn g) (eg : ∀ args w, (callFunc g args).run Try.prog w = .ok (.enter g args) w)
    (S : List Int → Prop) (N : Nat) (hN : N ≤ maxLen) (hNb : N * 8 ≤ 140737488355328) (w : World) (hseq : SeqGives F (n - 1) Try.prog g lb encU S N w) :
    CallsIn F n Try.prog 59 #[.slice none 0 0, .func (.func g) #[] lb] w fun e w' => ∃ (v : Value) (ss : List Int), e = .returned v ∧ S ss ∧ w'.ownsRow w.heap.size 22 1 v ss.length (ss.map encU) ∧ (v = .slice none 0 0 ↔ ss = []) ∧ Below w.heap.size w w' := by
  have h1 : 1 ≤ n := by omega
  refine callsIn_of_wp_marks Try.func59 rfl h11 ?_ hro
  simp only [Try.ntmps59, List.size_toArray, List.length_cons, List.length_nil, Nat.reduceAdd, Nat.reduceSub, Array.replicate_succ, Array.replicate_zero, List.push_toArray, List.append_toArray, List.nil_append, List.cons_append]
  gi_wp2
  refine wpIn_rangeFunc ?_
  intro fn hfn
  rw [hro]
  obtain ⟨W0, hW0⟩ : ∃ W0, w.alloc (.cells #[.slice none 0 0] 30) = W0 := ⟨_, rfl⟩
  have hs0 : W0.heap.size = w.heap.size + 1 := by rw [← hW0]; simp
  have hv0 : W0.heap[w.heap.size]? = some (.cells #[.slice none 0 0] 30 (0, 0)) := by rw [← hW0]; exact World.alloc_heap_new w _
  have hb0 : Below w.heap.size w W0 := by rw [← hW0]; exact (Below.refl _ w).alloc (Nat.le_refl _) _
  rw [hW0]
  obtain ⟨W1, hW1⟩ : ∃ W1, (W0.alloc (.deferred (some []))).alloc (.loop (apRec fn (.func (.func g) #[] lb) w.heap.size W0.heap.size .ready none)) = W1 := ⟨_, rfl⟩
  have hold : ∀ k, k < W0.heap.size → W1.heap[k]? = W0.heap[k]? := fun k hk => by
    rw [← hW1]; exact (Below.heap_alloc _ _ k (by simp; omega)).trans (Below.heap_alloc _ _ k hk)
  have hb1 : Below w.heap.size w W1 := by rw [← hW1]; exact (hb0.alloc hb0.size _).alloc (by have := hb0.size; simp; omega) _
  have hs1 : W1.heap.size = W0.heap.size + 2 := by rw [← hW1]; simp
  have hM : ApAt w fn (.func (.func g) #[] lb) w.heap.size (W0.heap.size + 1) W0.heap.size [] W1 :=
    ⟨⟨_, (hold w.heap.size (by omega)).trans hv0, ⟨rfl, .inl ⟨rfl, rfl⟩⟩, by simp⟩,
     by rw [← hW1]; have := World.alloc_heap_new (W0.alloc (.deferred (some []))) (.loop (apRec fn (.func (.func g) #[] lb) w.heap.size W0.heap.size .ready none)); rwa [World.size_alloc] at this,
     by rw [← hW1]; exact (Below.heap_alloc _ _ _ (by simp)).trans (World.alloc_heap_new W0 _), hb1⟩
  refine ⟨W0.heap.size + 1, [{ target := .collected W0.heap.size, args := #[] }], W1, { target := .fn (.func g) lb, args := #[.func (.yield (W0.heap.size + 1)) #[] #[]] }, W1, g,
    #[.func (.yield (W0.heap.size + 1)) #[] #[]] ++ lb, W1, ?_, ?_, ?_, ?_, fun _ => h1, ?_⟩
  · rw [← hW1]; exact run_enterLoop_outer _ _ _ _ _
  · simp [resolve, go_sem]
  · intro f' hf'; simp [Target.leads] at hf'; subst hf'; exact hFg
  · simp [invoke, go_sem, eg]
  · refine (hseq (W0.heap.size + 1) (ApAt w fn (.func (.func g) #[] lb) w.heap.size (W0.heap.size + 1) W0.heap.size) W1 hb1 (ap_abides _ _ _ _ _ _ _ hb1.size)
      (fun pre x W hJ hl => apYield F (n - 1 - 1) w fn hfn _ w.heap.size (W0.heap.size + 1) W0.heap.size (by omega) (by omega) (by omega) (Nat.le_refl _) (by omega) N hN hNb pre x W hJ hl) hM).mono ?_
    rintro e W2 ⟨⟨v0, rfl⟩, ss, hS, h2⟩
    obtain ⟨v, hv, hrow, hnil⟩ := h2.box
    have hend := run_endLoop (P := Try.prog) h2.L (by simp [apRec])
    obtain ⟨W3, hW3⟩ : ∃ W3, W2.putObj (W0.heap.size + 1) (.loop { apRec fn (.func (.func g) #[] lb) w.heap.size W0.heap.size .ready none with state := .exhausted }) = W3 := ⟨_, rfl⟩
    rw [hW3] at hend
    have hg3 : W2.grownBy W3 (some (W0.heap.size + 1)) := by rw [← hW3]; exact grownBy_putObj _ _ _
    have hv3 : W3.heap[w.heap.size]? = some (.cells #[v] 30 (0, 0)) := by rw [← hW3]; exact (World.putObj_heap_other (by omega)).trans hv
    have hK3 : W3.heap[W0.heap.size]? = some (.deferred (some [])) := by rw [← hW3]; exact (World.putObj_heap_other (by omega)).trans h2.K
    have hrow3 := hrow.kept hg3 (ownsRow_ne hrow h2.L (fun cur e => by cases e))
    have hb3 : Below w.heap.size w W3 := h2.below.grown hg3 h2.below.size (fun k e => by cases e; omega)
    obtain ⟨hc3, hf3⟩ := cell_of_box hv3
    clear hW3
    refine ⟨none, W3, hend, ?_⟩
    gi_wp2
    rw [← hs0]
    refine ⟨by simp, .inl ⟨_, _, rfl, run_takeDeferred hK3, ?_⟩⟩
    exact ⟨_, results_tmp rfl _ _ _, v, ss, rfl, hS, hrow3.kept (grownBy_putObj _ _ _) (ownsRow_ne hrow3 hK3 (fun cur e => by cases e)), hnil, hb3.grown (grownBy_putObj _ _ _) hb3.size (fun k e => by cases e; omega)⟩


set_option maxHeartbeats 1000000 in
theorem collect_in (F : Fence) (n : Nat) (h8 : F.fn 53) (h11 : F.fn 59) (hro : F.round = none) (hn : 3 ≤ n) (g : Nat) (lb : Array Value) (hFg : F.fn g) (eg : ∀ args w, (callFunc g args).run Try.prog w = .ok (.enter g args) w)
    (S : List Int → Prop) (N : Nat) (hN : N ≤ maxLen) (hNb : N * 8 ≤ 140737488355328) (w : World) (hseq : SeqGives F (n - 1 - 1) Try.prog g lb encU S N w) :
    CallsIn F n Try.prog 53 #[.func (.func g) #[] lb] w fun e w' => ∃ (v : Value) (ss : List Int), e = .returned v ∧ S ss ∧ w'.ownsRow w.heap.size 22 1 v ss.length (ss.map encU) ∧ (v = .slice none 0 0 ↔ ss = []) ∧ Below w.heap.size w w' := by
  have h1 : 1 ≤ n := by omega
  refine callsIn_of_wp Try.func53 rfl h8 ?_ hro
  simp only [Try.ntmps53, List.size_toArray, List.length_cons, List.length_nil, Nat.reduceAdd, Nat.reduceSub, Array.replicate_succ, Array.replicate_zero, List.push_toArray, List.append_toArray, List.nil_append, List.cons_append]
  gi_wp2_with (gi_at_call 59; refine (appendSeq_in F (n - 1) h11 hro (by omega) g lb hFg eg S N hN hNb _ hseq).mono ?_; rintro e w' ⟨v, ss, rfl, hS, hrow, hnil, hb⟩)
  go_ret
  exact ⟨v, ss, rfl, hS, hrow, hnil, hb⟩

set_option maxRecDepth 100000 in
set_option maxHeartbeats 1000000 in
theorem keys1_nil_in (F : Fence) (n : Nat) (h10 : F.fn 55) (hro : F.round = none) (l Bm Bo : Nat) (J : List Int → World → Prop) (W : World) (hJ : AbidesFrom W.heap.size J)
    (hm : W.cell? ⟨Bm, Bo, none⟩ = some (.map none)) (h0 : J [] W) :
    CallsIn F n Try.prog 55 #[.func (.yield l) #[] #[], .pointer (some ⟨Bm, Bo, none⟩)] W fun e W' => (∃ v, e = .returned v) ∧ ∃ ss : List Int, ss = [] ∧ J ss W' := by
  refine callsIn_of_wp Try.func55 rfl h10 ?_ hro
  simp only [Try.ntmps55, List.size_toArray, List.length_cons, List.length_nil, Nat.reduceAdd, Nat.reduceSub, Array.replicate_succ, Array.replicate_zero, List.push_toArray, List.append_toArray, List.nil_append, List.cons_append]
  have hrg := run_range_nilMap (P := Try.prog) W 34 22 22 Try.underlying34
  have hnx : ∀ ty, (Instr.next (.pointer (some ⟨W.heap.size, 0, none⟩)) false ty).run Try.prog (W.alloc (.mapIter none 0 #[] 0)) = _ := fun ty => run_next_nilMap _ ty 0 0 #[]
  gi_wp2
  refine wpIn_loop_rounds 1 ?_
  rw [roundsIn_succ]
  gi_wp2
  go_end0
  exact ⟨⟨_, rfl⟩, [], rfl, hJ [] W _ none h0 (World.grownBy_alloc W _ none) (fun r e => by cases e)⟩

theorem keys_gives_nil (F : Fence) (n : Nat) (h10 : F.fn 55) (hro : F.round = none) (Bm Bo : Nat) (w : World) (hBm : Bm < w.heap.size) (hm : w.cell? ⟨Bm, Bo, none⟩ = some (.map none)) :
    SeqGives F n Try.prog 55 #[.pointer (some ⟨Bm, Bo, none⟩)] encU (fun ss : List Int => ss = []) 0 w := fun l J W hW hJ _ h0 =>
  keys1_nil_in F n h10 hro l Bm Bo J W hJ ((hW.cell (p := ⟨Bm, Bo, none⟩) hBm).trans hm) h0

end Go.Proofs.Ythooafgfpnedhaa.specsDo
namespace Go.Proofs.Ythooafgfpnedhaa.specsDo
open Go Go.Mini Go.Proofs Go.RowKit Go.Maps Go.Sort Go.Shelf
/-! ### a map of numbers, read by the kit; a row made by a call, told to the interpreter -/
def uI (n : Int) : AV := .int .u64 n
/-- A map's entries may lie so. -/
structure MapOk (M : List (Int × Int)) (bn : List Nat) (ck : Nat) : Prop where
  keys : (M.map (·.1)).Nodup
  born : bn.Nodup
  lt : ∀ b ∈ bn, b < ck
  wf : ∀ x ∈ M, (Lit.int .u64 x.1).wf = true ∧ (Lit.int .u64 x.2).wf = true
  len : M.length ≤ 1000000
theorem erel_mapE {ρ : Mini.Ren} : ∀ {M : List (Int × Int)} {l : List MapEntry}, ERel ρ (mapE .u64 .u64 M) l → l.map (·.key) = M.map (fun x => encU x.1) ∧ l.map (·.val) = M.map (fun x => encU x.2)
  | [], l, h => by
    have h : l = [] := h
    subst h
    exact ⟨rfl, rfl⟩
  | x :: M, l, h => by
    obtain ⟨e, r, rfl, h1, h2, h3⟩ := h
    obtain ⟨i1, i2⟩ := erel_mapE h3
    rw [vrel_int] at h1 h2
    exact ⟨by simp only [List.map_cons, i1, h1], by simp only [List.map_cons, i2, h2]⟩
theorem mem_of_maps {l : List MapEntry} {M : List (Int × Int)} (h1 : l.map (·.key) = M.map (fun x => encU x.1)) (h2 : l.map (·.val) = M.map (fun x => encU x.2)) {e : MapEntry} (he : e ∈ l) : ∃ x ∈ M, e.key = encU x.1 ∧ e.val = encU x.2 := by
  obtain ⟨i, hi⟩ := List.getElem?_of_mem he
  have k1 : (l.map (·.key))[i]? = some e.key := by rw [List.getElem?_map, hi]; rfl
  have k2 : (l.map (·.val))[i]? = some e.val := by rw [List.getElem?_map, hi]; rfl
  rw [h1, List.getElem?_map] at k1
  rw [h2, List.getElem?_map] at k2
  cases hx : M[i]? with
  | none => rw [hx] at k1; cases k1
  | some x =>
    rw [hx] at k1 k2
    exact ⟨x, List.mem_of_getElem? hx, (Option.some.inj k1).symm, (Option.some.inj k2).symm⟩
theorem nodup_enc : ∀ {l : List Int}, l.Nodup → (l.map encU).Nodup
  | [], _ => List.nodup_nil
  | x :: l, h => by
    obtain ⟨h1, h2⟩ := List.nodup_cons.1 h
    refine List.nodup_cons.2 ⟨fun hm => ?_, nodup_enc h2⟩
    obtain ⟨y, hy, e⟩ := List.mem_map.1 hm
    exact h1 (encU_inj e ▸ hy)
theorem owns_of {w : World} {ρ : Mini.Ren} {M : List (Int × Int)} {bn : List Nat} {ck c : Nat} {ents : Array MapEntry} (hk : MapOk M bn ck) (hb : w.heap[c]? = some (.map ents ck)) (he : ERel ρ (mapE .u64 .u64 M) ents.toList) (hbn : ents.toList.map (·.born) = bn) :
    ∃ D0 : DataW Unit, w.ownsMap Try.prog 22 (plainElem Try.prog 22) c M.length D0 ∧ Maps.size D0 = M.length ∧ ∀ x : Int, has D0 (.int .u64 x) = true ↔ x ∈ M.map (·.1) := by
  obtain ⟨e1, e2⟩ := erel_mapE he
  have hlen : ents.toList.length = M.length := by have := congrArg List.length e1; simpa using this
  have hrd : ∀ y ∈ ents.toList, ∃ x ∈ M, WideElems.rd (H := Unit) Try.prog 22 (plainElem Try.prog 22) y = some (.int .u64 x.1, .lit (.int .u64 x.2)) := by
    intro y hy
    obtain ⟨x, hx, k1, k2⟩ := mem_of_maps e1 e2 hy
    refine ⟨x, hx, ?_⟩
    have hw := hk.wf x hx
    unfold WideElems.rd
    rw [k1, k2]
    have q : keyOf Try.prog 22 (encU x.1) = some (.int .u64 x.1) := by simp [keyOf, mapKey, Try.underlying22, hw.1]
    have p : plainElem (H := Unit) Try.prog 22 (encU x.2) = some (.lit (.int .u64 x.2), []) := plainElem_int Try.underlying22 hw.2
    rw [q, p]
    rfl
  refine ⟨.map ((ents.toList.map (WideElems.rg Try.prog 22 (plainElem Try.prog 22))).foldr DataW.insert []), ⟨ents, ck, hb, ⟨?_, ⟨?_, ?_, ?_⟩, fun y hy => ?_⟩, ?_, rfl⟩, ?_, fun x => ?_⟩
  · have := hk.len
    rw [← Array.length_toList, hlen]
    have : M.length ≤ 1000000 := hk.len
    unfold maxLen
    omega
  · intro y hy
    exact hk.lt _ (hbn ▸ List.mem_map.2 ⟨y, hy, rfl⟩)
  · rw [hbn]; exact hk.born
  · rw [e1]
    have := hk.keys
    rw [show (M.map fun x => encU x.1) = (M.map (·.1)).map encU by rw [List.map_map]; rfl]
    exact nodup_enc this
  · obtain ⟨x, _, h⟩ := hrd y hy
    exact ⟨_, h⟩
  · rw [← Array.length_toList, hlen]; exact Nat.le_refl _
  · simp [Maps.size, length_sorted, hlen]
  · show List.any _ _ = true ↔ _
    rw [List.any_eq_true]
    constructor
    · rintro ⟨p, hp, hs⟩
      obtain ⟨y, hy, rfl⟩ := List.mem_map.1 (mem_sorted.1 hp)
      obtain ⟨z, hz, h⟩ := hrd y hy
      rw [WideElems.rg_of h] at hs
      have hs := WideAt.sameKey_eq hs
      have hs : Lit.int .u64 z.1 = Lit.int .u64 x := hs
      exact List.mem_map.2 ⟨z, hz, (Lit.int.inj hs).2⟩
    · intro hx
      obtain ⟨z, hz, rfl⟩ := List.mem_map.1 hx
      have hm : encU z.1 ∈ ents.toList.map (·.key) := by rw [e1]; exact List.mem_map.2 ⟨z, hz, rfl⟩
      obtain ⟨y, hy, hyk⟩ := List.mem_map.1 hm
      obtain ⟨z', hz', h⟩ := hrd y hy
      refine ⟨_, mem_sorted.2 (List.mem_map.2 ⟨y, hy, rfl⟩), ?_⟩
      have hkk := WideElems.rd_key h
      have hk2 : keyOf Try.prog 22 y.key = some (.int .u64 z.1) := by rw [hyk]; simp [keyOf, mapKey, Try.underlying22, (hk.wf z hz).1]
      rw [hk2] at hkk
      rw [WideElems.rg_of h]
      have hkk := Option.some.inj hkk
      show Lit.sameKey (.int .u64 z'.1) (.int .u64 z.1) = true
      have hkk : z.1 = z'.1 := (Lit.int.inj hkk).2
      rw [hkk]
      simp [Lit.sameKey]
end Go.Proofs.Ythooafgfpnedhaa.specsDo
namespace Go.Proofs.Ythooafgfpnedhaa.specsDo.sd
open Go Go.Mini
/-! ### Do, with what the maps' stamps and numbers are -/
def WF (x : Int) : Prop := (Lit.int .u64 x).wf = true
theorem wf0 : WF 0 := rfl
structure MapI (M : List (Int × Int)) (bn : List Nat) (ck : Nat) : Prop where
  born : bn.Nodup
  lt : ∀ b ∈ bn, b < ck
  wf : ∀ x ∈ M, WF x.1 ∧ WF x.2
theorem put_mem {k v : Int} : ∀ {es : List (Int × Int)} {x : Int × Int}, x ∈ putM es k v → x = (k, v) ∨ x ∈ es
  | [], x, h => .inl (by have h : x ∈ [(k, v)] := h; simpa using h)
  | y :: t, x, h => by
    have h : x ∈ (if k = y.1 then (k, v) :: t else y :: putM t k v) := h
    split at h
    · rcases List.mem_cons.1 h with h | h
      · exact .inl h
      · exact .inr (List.mem_cons_of_mem _ h)
    · rcases List.mem_cons.1 h with h | h
      · exact .inr (h ▸ List.mem_cons_self)
      · rcases put_mem h with h | h
        · exact .inl h
        · exact .inr (List.mem_cons_of_mem _ h)
theorem del_mem {k : Int} : ∀ {es : List (Int × Int)} {x : Int × Int}, x ∈ delM es k → x ∈ es
  | [], x, h => h
  | y :: t, x, h => by
    have h : x ∈ (if k = y.1 then t else y :: delM t k) := h
    split at h
    · exact List.mem_cons_of_mem _ h
    · rcases List.mem_cons.1 h with h | h
      · exact h ▸ List.mem_cons_self
      · exact List.mem_cons_of_mem _ (del_mem h)
theorem MapI.put {es : List (Int × Int)} {bn : List Nat} {ck : Nat} {k v : Int} (h : MapI es bn ck) (hk : WF k) (hv : WF v) : MapI (putM es k v) (bn ++ [ck]) (ck + 1) where
  born := List.nodup_append.2 ⟨h.born, by simp, fun a ha b hb => by
    have := h.lt a ha
    have : b = ck := by simpa using hb
    omega⟩
  lt b hb := by
    rcases List.mem_append.1 hb with hb | hb
    · have := h.lt b hb; omega
    · have : b = ck := by simpa using hb
      omega
  wf x hx := by
    rcases put_mem hx with rfl | hx
    · exact ⟨hk, hv⟩
    · exact h.wf x hx
theorem MapI.del {es : List (Int × Int)} {bn : List Nat} {ck : Nat} (h : MapI es bn ck) (k : Int) : MapI (delM es k) (bn.eraseIdx (posM es k)) ck where
  born := List.Pairwise.sublist (List.eraseIdx_sublist _ _) h.born
  lt b hb := h.lt b (List.mem_of_mem_eraseIdx hb)
  wf x hx := h.wf x (del_mem hx)
theorem MapI.one {k v : Int} (hk : WF k) (hv : WF v) : MapI [(k, v)] [0] 1 where
  born := by simp
  lt b hb := by have : b = 0 := by simpa using hb
                omega
  wf x hx := by
    have : x = (k, v) := by simpa using hx
    subst this
    exact ⟨hk, hv⟩
theorem MapI.ok {M : List (Int × Int)} {bn : List Nat} {ck : Nat} (h : MapI M bn ck) (hn : (M.map (·.1)).Nodup) (hl : M.length ≤ 1000000) : MapOk M bn ck := ⟨hn, h.born, h.lt, h.wf, hl⟩
def MO (S : Option (List (Int × Int))) (m : AV) (b : Nat) (o : AObj) : Prop := match S with
  | none => m = .nilMap ∧ Free o
  | some es => m = .map b ∧ ∃ bn ck, o = .map (mapE .u64 .u64 es) bn ck ∧ MapI es bn ck
theorem MO.mk {es : List (Int × Int)} {b : Nat} {bn : List Nat} {ck : Nat} (hI : MapI es bn ck) : MO (some es) (.map b) b (.map (mapE .u64 .u64 es) bn ck) := And.intro rfl ⟨bn, ck, rfl, hI⟩
section
variable {S : Option (List (Int × Int))} {m : AV} {b : Nat} {o : AObj}
theorem MO.fr (h : MO S m b o) : Free o := by
  cases S with
  | none => exact h.2
  | some es => obtain ⟨_, bn, ck, rfl, _⟩ := h; exact freeMap es bn ck
theorem MO.mp (h : MO S m b o) : Mp m := by
  cases S with
  | none => exact .inl h.1
  | some es => exact .inr ⟨b, h.1⟩
theorem MO.ren (h : MO S m b o) (π : Nat → Nat) (hp : π b = b) : m.ren π = m := by
  cases S with
  | none => rw [h.1]; rfl
  | some es => rw [h.1]; simp [AV.ren, hp]
theorem MO.nm (h : MO S m b o) {n : Nat} (hb : b < n) : m.names (fun c => Nat.blt c n) = true := by
  cases S with
  | none => rw [h.1]; rfl
  | some es => rw [h.1]; simpa [AV.names] using hb
end
structure Inv3 (S T : Option (List (Int × Int))) (Q : Option (List Int × Nat)) (st : S3) : Prop where
  s : MO S st.mS 1 st.oS
  t : MO T st.mT 2 st.oT
  q : QO Q st.q 3 st.oQ
def Does (s : AS) (S T : Option (List (Int × Int))) (Q : Option (List Int × Nat)) (op : Nat) (k v : Int) : Prop :=
  ∃ S' T' Q' st' r x1 x2 x3 xN, Inv3 S' T' Q' st' ∧ rep S' T' Q' = (stepP (rep S T Q) op k v).2 ∧ qlen Q' ≤ qlen Q + 1 ∧ After s st' r x1 x2 x3 xN ∧
    Sound Try.prog (.call 9 [.ptr 4 0, .int .u8 (Int.ofNat op), .int .u64 k, .int .u64 v] s) ⟨.ret, [.tuple [.int .u8 (Int.ofNat (stepP (rep S T Q) op k v).1.1), .int .u64 (stepP (rep S T Q) op k v).1.2]], (uni s [st'.mS.ren (moved r s.nx), st'.mT.ren (moved r s.nx), st'.q.ren (moved r s.nx)] x1 x2 x3).push xN⟩
section
variable {s : AS} {S T : Option (List (Int × Int))} {Q : Option (List Int × Nat)} {st : S3} {k v : Int} (inv : Inv3 S T Q st) (h4 : s.get 4 = some (.cells false [st.mS, st.mT, st.q])) (h1 : s.get 1 = some st.oS) (h2 : s.get 2 = some st.oT) (h3 : s.get 3 = some st.oQ)
include inv h4 h1 h2 h3
/-- Nothing changes. -/
theorem does_same {op : Nat} (hp : (stepP (rep S T Q) op k v).2 = rep S T Q) (h : Sound Try.prog (.call 9 [.ptr 4 0, .int .u8 (Int.ofNat op), .int .u64 k, .int .u64 v] s) ⟨.ret, [.tuple [.int .u8 (Int.ofNat (stepP (rep S T Q) op k v).1.1), .int .u64 (stepP (rep S T Q) op k v).1.2]], s⟩) : Does s S T Q op k v := by
  refine ⟨S, T, Q, st, 0, st.oS, st.oT, st.oQ, phO, inv, hp.symm, by omega, ⟨by omega, .inr inv.s.fr, .inr inv.t.fr, .inr inv.q.fr, phFree, fun _ => rfl, fun _ => rfl, fun _ => rfl, fun h => by omega, fun h => by omega, fun h => by omega⟩, toU h4 h1 h2 h3 phO h rfl rfl rfl fun c => ?_⟩
  rw [inv.s.ren _ rfl, inv.t.ren _ rfl, inv.q.ren _ rfl]
  unfold ug
  by_cases e3 : c = 3
  · rw [if_pos e3, e3, h3]
  by_cases e2 : c = 2
  · rw [if_neg e3, if_pos e2, e2, h2]
  by_cases e1 : c = 1
  · rw [if_neg e3, if_neg e2, if_pos e1, e1, h1]
  by_cases e4 : c = 4
  · rw [if_neg e3, if_neg e2, if_neg e1, if_pos e4, e4, h4]
  rw [if_neg e3, if_neg e2, if_neg e1, if_neg e4]
/-- The set's map is another one. -/
theorem does_S {op : Nat} {es : List (Int × Int)} {bn : List Nat} {ck : Nat} (hI : MapI es bn ck) (hS : st.mS = .map 1) (hp : (stepP (rep S T Q) op k v).2 = rep (some es) T Q) (h : Sound Try.prog (.call 9 [.ptr 4 0, .int .u8 (Int.ofNat op), .int .u64 k, .int .u64 v] s) ⟨.ret, [.tuple [.int .u8 (Int.ofNat (stepP (rep S T Q) op k v).1.1), .int .u64 (stepP (rep S T Q) op k v).1.2]], s.set 1 (.map (mapE .u64 .u64 es) bn ck)⟩) : Does s S T Q op k v := by
  refine ⟨some es, T, Q, ⟨.map 1, st.mT, st.q, .map (mapE .u64 .u64 es) bn ck, st.oT, st.oQ⟩, 0, .map (mapE .u64 .u64 es) bn ck, st.oT, st.oQ, phO, ⟨MO.mk hI, inv.t, inv.q⟩, hp.symm, by omega, ⟨by omega, .inr (freeMap _ _ _), .inr inv.t.fr, .inr inv.q.fr, phFree, fun _ => rfl, fun _ => rfl, fun _ => rfl, fun h => by omega, fun h => by omega, fun h => by omega⟩, toU h4 h1 h2 h3 phO h (setB_keys _ _ _) rfl rfl fun c => ?_⟩
  show _ = ug s [.map 1, st.mT.ren _, st.q.ren _] _ _ _ c
  rw [inv.t.ren _ rfl, inv.q.ren _ rfl, get_set]
  unfold ug
  by_cases e3 : c = 3
  · subst e3; simp [h3]
  by_cases e2 : c = 2
  · subst e2; simp [h2]
  by_cases e1 : c = 1
  · subst e1; simp [h1]
  by_cases e4 : c = 4
  · subst e4; simp [h4, hS]
  simp [e1, e2, e3, e4]
theorem does_T {op : Nat} {es : List (Int × Int)} {bn : List Nat} {ck : Nat} (hI : MapI es bn ck) (hT : st.mT = .map 2) (hp : (stepP (rep S T Q) op k v).2 = rep S (some es) Q) (h : Sound Try.prog (.call 9 [.ptr 4 0, .int .u8 (Int.ofNat op), .int .u64 k, .int .u64 v] s) ⟨.ret, [.tuple [.int .u8 (Int.ofNat (stepP (rep S T Q) op k v).1.1), .int .u64 (stepP (rep S T Q) op k v).1.2]], s.set 2 (.map (mapE .u64 .u64 es) bn ck)⟩) : Does s S T Q op k v := by
  refine ⟨S, some es, Q, ⟨st.mS, .map 2, st.q, st.oS, .map (mapE .u64 .u64 es) bn ck, st.oQ⟩, 0, st.oS, .map (mapE .u64 .u64 es) bn ck, st.oQ, phO, ⟨inv.s, MO.mk hI, inv.q⟩, hp.symm, by omega, ⟨by omega, .inr inv.s.fr, .inr (freeMap _ _ _), .inr inv.q.fr, phFree, fun _ => rfl, fun _ => rfl, fun _ => rfl, fun h => by omega, fun h => by omega, fun h => by omega⟩, toU h4 h1 h2 h3 phO h (setB_keys _ _ _) rfl rfl fun c => ?_⟩
  show _ = ug s [st.mS.ren _, .map 2, st.q.ren _] _ _ _ c
  rw [inv.s.ren _ rfl, inv.q.ren _ rfl, get_set]
  unfold ug
  by_cases e3 : c = 3
  · subst e3; simp [h3]
  by_cases e2 : c = 2
  · subst e2; simp [h2]
  by_cases e1 : c = 1
  · subst e1; simp [h1]
  by_cases e4 : c = 4
  · subst e4; simp [h4, hT]
  simp [e1, e2, e3, e4]
/-- A first map of the set, of the map. -/
theorem does_nS {op : Nat} {w : Int} {bn : List Nat} {ck : Nat} (hI : MapI [(k, w)] bn ck) (hp : (stepP (rep S T Q) op k v).2 = rep (some [(k, w)]) T Q) (h : Sound Try.prog (.call 9 [.ptr 4 0, .int .u8 (Int.ofNat op), .int .u64 k, .int .u64 v] s) ⟨.ret, [.tuple [.int .u8 (Int.ofNat (stepP (rep S T Q) op k v).1.1), .int .u64 (stepP (rep S T Q) op k v).1.2]], (s.set 4 (.cells false [.map s.nx, st.mT, st.q])).push (.map [(.int .u64 k, .int .u64 w)] bn ck)⟩) : Does s S T Q op k v := by
  refine ⟨some [(k, w)], T, Q, ⟨.map 1, st.mT, st.q, .map [(.int .u64 k, .int .u64 w)] bn ck, st.oT, st.oQ⟩, 1, st.oS, st.oT, st.oQ, .map [(.int .u64 k, .int .u64 w)] bn ck, ⟨MO.mk (es := [(k, w)]) hI, inv.t, inv.q⟩, hp.symm, by omega, ⟨by omega, .inr inv.s.fr, .inr inv.t.fr, .inr inv.q.fr, ⟨rfl, rfl⟩, fun h => absurd rfl h, fun _ => rfl, fun _ => rfl, fun _ => rfl, fun h => by omega, fun h => by omega⟩, toUp h4 h1 h2 h3 h (setB_keys _ _ _) rfl rfl fun c => ?_⟩
  show _ = ug s [.map s.nx, st.mT.ren _, st.q.ren _] _ _ _ c
  rw [inv.t.ren _ rfl, inv.q.ren _ rfl, get_set]
  unfold ug
  by_cases e3 : c = 3
  · subst e3; simp [h3]
  by_cases e2 : c = 2
  · subst e2; simp [h2]
  by_cases e1 : c = 1
  · subst e1; simp [h1]
  by_cases e4 : c = 4
  · subst e4; simp [h4]
  simp [e1, e2, e3, e4]
theorem does_nT {op : Nat} {w : Int} {bn : List Nat} {ck : Nat} (hI : MapI [(k, w)] bn ck) (hp : (stepP (rep S T Q) op k v).2 = rep S (some [(k, w)]) Q) (h : Sound Try.prog (.call 9 [.ptr 4 0, .int .u8 (Int.ofNat op), .int .u64 k, .int .u64 v] s) ⟨.ret, [.tuple [.int .u8 (Int.ofNat (stepP (rep S T Q) op k v).1.1), .int .u64 (stepP (rep S T Q) op k v).1.2]], (s.set 4 (.cells false [st.mS, .map s.nx, st.q])).push (.map [(.int .u64 k, .int .u64 w)] bn ck)⟩) : Does s S T Q op k v := by
  refine ⟨S, some [(k, w)], Q, ⟨st.mS, .map 2, st.q, st.oS, .map [(.int .u64 k, .int .u64 w)] bn ck, st.oQ⟩, 2, st.oS, st.oT, st.oQ, .map [(.int .u64 k, .int .u64 w)] bn ck, ⟨inv.s, MO.mk (es := [(k, w)]) hI, inv.q⟩, hp.symm, by omega, ⟨by omega, .inr inv.s.fr, .inr inv.t.fr, .inr inv.q.fr, ⟨rfl, rfl⟩, fun _ => rfl, fun h => absurd rfl h, fun _ => rfl, fun h => by omega, fun _ => rfl, fun h => by omega⟩, toUp h4 h1 h2 h3 h (setB_keys _ _ _) rfl rfl fun c => ?_⟩
  show _ = ug s [st.mS.ren _, .map s.nx, st.q.ren _] _ _ _ c
  rw [inv.s.ren _ rfl, inv.q.ren _ rfl, get_set]
  unfold ug
  by_cases e3 : c = 3
  · subst e3; simp [h3]
  by_cases e2 : c = 2
  · subst e2; simp [h2]
  by_cases e1 : c = 1
  · subst e1; simp [h1]
  by_cases e4 : c = 4
  · subst e4; simp [h4]
  simp [e1, e2, e3, e4]
end
section
variable {s : AS} {S T : Option (List (Int × Int))} {Q : Option (List Int × Nat)} {st : S3} {k v : Int} (inv : Inv3 S T Q st) (h4 : s.get 4 = some (.cells false [st.mS, st.mT, st.q])) (h1 : s.get 1 = some st.oS) (h2 : s.get 2 = some st.oT) (h3 : s.get 3 = some st.oQ)
include inv h4 h1 h2 h3
theorem does_Q {op : Nat} {R : List Int} {kk n : Nat} (hQ : Q = some (R, kk)) (hk : kk + 1 ≤ R.length) (hn : n = R.length - (kk + 1)) (hp : (stepP (rep S T Q) op k v).2 = rep S T (some (R, kk + 1))) (h : Sound Try.prog (.call 9 [.ptr 4 0, .int .u8 (Int.ofNat op), .int .u64 k, .int .u64 v] s) ⟨.ret, [.tuple [.int .u8 (Int.ofNat (stepP (rep S T Q) op k v).1.1), .int .u64 (stepP (rep S T Q) op k v).1.2]], s.set 4 (.cells false [st.mS, st.mT, .osl 3 (kk + 1) n 1])⟩) : Does s S T Q op k v := by
  subst hQ
  obtain ⟨q1, q2, q3⟩ := inv.q
  have hq' : QO (some (R, kk + 1)) (.osl 3 (kk + 1) n 1) 3 st.oQ := And.intro (by rw [hn]) (And.intro q2 hk)
  refine ⟨S, T, some (R, kk + 1), ⟨st.mS, st.mT, .osl 3 (kk + 1) n 1, st.oS, st.oT, st.oQ⟩, 0, st.oS, st.oT, st.oQ, phO, ⟨inv.s, inv.t, hq'⟩, hp.symm, Nat.le_succ _, ⟨by omega, .inr inv.s.fr, .inr inv.t.fr, .inr hq'.fr, phFree, fun _ => rfl, fun _ => rfl, fun _ => rfl, fun h => by omega, fun h => by omega, fun h => by omega⟩, toU h4 h1 h2 h3 phO h (setB_keys _ _ _) rfl rfl fun c => ?_⟩
  show _ = ug s [st.mS.ren _, st.mT.ren _, .osl 3 (kk + 1) n 1] _ _ _ c
  rw [inv.s.ren _ rfl, inv.t.ren _ rfl, get_set]
  unfold ug
  by_cases e3 : c = 3
  · subst e3; simp [h3]
  by_cases e2 : c = 2
  · subst e2; simp [h2]
  by_cases e1 : c = 1
  · subst e1; simp [h1]
  by_cases e4 : c = 4
  · subst e4; simp [h4]
  simp [e1, e2, e3, e4]
theorem does_nQ {op : Nat} (hp : (stepP (rep S T Q) op k v).2 = rep S T (some ([v], 0))) (h : Sound Try.prog (.call 9 [.ptr 4 0, .int .u8 (Int.ofNat op), .int .u64 k, .int .u64 v] s) ⟨.ret, [.tuple [.int .u8 (Int.ofNat (stepP (rep S T Q) op k v).1.1), .int .u64 (stepP (rep S T Q) op k v).1.2]], (s.set 4 (.cells false [st.mS, st.mT, .osl s.nx 0 1 1])).push (.cells false [.int .u64 v])⟩) : Does s S T Q op k v := by
  refine ⟨S, T, some ([v], 0), ⟨st.mS, st.mT, .osl 3 0 1 1, st.oS, st.oT, .cells false [.int .u64 v]⟩, 3, st.oS, st.oT, st.oQ, .cells false [.int .u64 v], ⟨inv.s, inv.t, QO.mk (R := [v]) rfl (Nat.zero_le _)⟩, hp.symm, Nat.le_add_left 1 _, ⟨by omega, .inr inv.s.fr, .inr inv.t.fr, .inr inv.q.fr, ⟨rfl, rfl⟩, fun _ => rfl, fun _ => rfl, fun h => absurd rfl h, fun h => by omega, fun h => by omega, fun _ => rfl⟩, toUp h4 h1 h2 h3 h (setB_keys _ _ _) rfl rfl fun c => ?_⟩
  show _ = ug s [st.mS.ren _, st.mT.ren _, .osl s.nx 0 1 1] _ _ _ c
  rw [inv.s.ren _ rfl, inv.t.ren _ rfl, get_set]
  unfold ug
  by_cases e3 : c = 3
  · subst e3; simp [h3]
  by_cases e2 : c = 2
  · subst e2; simp [h2]
  by_cases e1 : c = 1
  · subst e1; simp [h1]
  by_cases e4 : c = 4
  · subst e4; simp [h4]
  simp [e1, e2, e3, e4]
theorem does_pQ {op : Nat} {R : List Int} {kk n : Nat} (hQ : Q = some (R, kk)) (hn : n = R.length - kk + 1) (hp : (stepP (rep S T Q) op k v).2 = rep S T (some (R.drop kk ++ [v], 0))) (h : Sound Try.prog (.call 9 [.ptr 4 0, .int .u8 (Int.ofNat op), .int .u64 k, .int .u64 v] s) ⟨.ret, [.tuple [.int .u8 (Int.ofNat (stepP (rep S T Q) op k v).1.1), .int .u64 (stepP (rep S T Q) op k v).1.2]], ((s.set 4 (.cells false [st.mS, st.mT, .osl s.nx 0 n 1])).set 3 .dead).push (.cells false (uc (R.drop kk ++ [v])))⟩) : Does s S T Q op k v := by
  subst hQ
  refine ⟨S, T, some (R.drop kk ++ [v], 0), ⟨st.mS, st.mT, .osl 3 0 n 1, st.oS, st.oT, .cells false (uc (R.drop kk ++ [v]))⟩, 3, st.oS, st.oT, .dead, .cells false (uc (R.drop kk ++ [v])), ⟨inv.s, inv.t, QO.mk (R := R.drop kk ++ [v]) (by simp [hn]) (Nat.zero_le _)⟩, hp.symm, by simp [qlen], ⟨by omega, .inr inv.s.fr, .inr inv.t.fr, .inl rfl, freeUc _, fun _ => rfl, fun _ => rfl, fun h => absurd rfl h, fun h => by omega, fun h => by omega, fun _ => rfl⟩, toUp h4 h1 h2 h3 h (by show (setB (setB s.h.bs 4 _) 3 _).map (·.1) = _; rw [setB_keys, setB_keys]) rfl rfl fun c => ?_⟩
  show _ = ug s [st.mS.ren _, st.mT.ren _, .osl s.nx 0 n 1] _ _ _ c
  rw [inv.s.ren _ rfl, inv.t.ren _ rfl, get_set, get_set, get_set]
  unfold ug
  by_cases e3 : c = 3
  · subst e3; simp [h3]
  by_cases e2 : c = 2
  · subst e2; simp [h2]
  by_cases e1 : c = 1
  · subst e1; simp [h1]
  by_cases e4 : c = 4
  · subst e4; simp [h4]
  simp [e1, e2, e3, e4]
/-- Each op does what the plain state does. -/
theorem doAll (hk : WF k) (hv : WF v) {op : Nat} (hq : qlen Q < 16777000) : Does s S T Q op k v := by
  have is := inv.s
  have it := inv.t
  have iq := inv.q
  have case0 : op = 0 ∨ op = 1 ∨ op = 2 ∨ op = 3 ∨ op = 4 ∨ op = 5 ∨ op = 6 ∨ op = 7 ∨ 8 ≤ op := by omega
  rcases case0 with rfl | rfl | rfl | rfl | rfl | rfl | rfl | rfl | h8
  · cases S with
    | none =>
      obtain ⟨e1, _⟩ := is
      rw [e1] at h4
      refine does_nS (st := st) (w := 0) (bn := [0]) (ck := 1) inv (by rw [e1]; exact h4) h1 h2 h3 (MapI.one hk wf0) rfl (D0n h4 it.mp iq.ql)
    | some es =>
      obtain ⟨e1, bn, ck, e2, eI⟩ := is
      rw [e1] at h4
      rw [e2] at h1
      cases hx : getM es k with
      | none =>
        have ep : putP es k 0 = ((1, 0), putM es k 0) := by simp [putP, hx]
        refine does_S (st := st) (es := putM es k 0) (bn := bn ++ [ck]) (ck := ck + 1) inv (by rw [e1]; exact h4) (by rw [e2]; exact h1) h2 h3 (eI.put hk wf0) e1 (by show ((putP es k 0).2, T.getD [], qv Q) = _; rw [ep]; rfl) ?_
        show Sound _ _ ⟨_, [.tuple [.int .u8 (Int.ofNat (putP es k 0).1.1), .int .u64 (putP es k 0).1.2]], _⟩
        rw [ep]
        exact D0a h4 h1 it.mp iq.ql hx
      | some y =>
        have ep : putP es k 0 = ((2, 0), es) := by simp [putP, hx]
        refine does_same inv (by rw [e1]; exact h4) (by rw [e2]; exact h1) h2 h3 (by show ((putP es k 0).2, T.getD [], qv Q) = _; rw [ep]; rfl) ?_
        show Sound _ _ ⟨_, [.tuple [.int .u8 (Int.ofNat (putP es k 0).1.1), .int .u64 (putP es k 0).1.2]], _⟩
        rw [ep]
        exact D0y h4 h1 it.mp iq.ql hx
  · cases S with
    | none =>
      obtain ⟨e1, _⟩ := is
      refine does_same inv h4 h1 h2 h3 rfl ?_
      rw [e1] at h4
      exact D1n h4 it.mp iq.ql
    | some es =>
      obtain ⟨e1, bn, ck, e2, eI⟩ := is
      rw [e1] at h4
      rw [e2] at h1
      cases hx : getM es k with
      | none =>
        have ep : dropP es k = ((2, 0), es) := by simp [dropP, hx]
        refine does_same inv (by rw [e1]; exact h4) (by rw [e2]; exact h1) h2 h3 (by show ((dropP es k).2, T.getD [], qv Q) = _; rw [ep]; rfl) ?_
        show Sound _ _ ⟨_, [.tuple [.int .u8 (Int.ofNat (dropP es k).1.1), .int .u64 (dropP es k).1.2]], _⟩
        rw [ep]
        exact D1a h4 h1 it.mp iq.ql hx
      | some y =>
        have ep : dropP es k = ((1, 0), delM es k) := by simp [dropP, hx]
        refine does_S (st := st) (es := delM es k) (bn := bn.eraseIdx (posM es k)) (ck := ck) inv (by rw [e1]; exact h4) (by rw [e2]; exact h1) h2 h3 (eI.del k) e1 (by show ((dropP es k).2, T.getD [], qv Q) = _; rw [ep]; rfl) ?_
        show Sound _ _ ⟨_, [.tuple [.int .u8 (Int.ofNat (dropP es k).1.1), .int .u64 (dropP es k).1.2]], _⟩
        rw [ep]
        exact D1y h4 h1 it.mp iq.ql hx
  · refine does_same inv h4 h1 h2 h3 rfl ?_
    show Sound _ _ ⟨_, [.tuple [.int .u8 (Int.ofNat (if (getM (S.getD []) k).isSome then 1 else 2)), _]], _⟩
    cases S with
    | none =>
      obtain ⟨e1, _⟩ := is
      rw [e1] at h4
      exact D2n h4 it.mp iq.ql
    | some es =>
      obtain ⟨e1, bn, ck, e2, eI⟩ := is
      rw [e1] at h4
      rw [e2] at h1
      cases hx : getM es k with
      | none =>
        rw [show (getM ((some es).getD []) k).isSome = false from by simp [hx]]
        exact D2a h4 h1 it.mp iq.ql hx
      | some y =>
        rw [show (getM ((some es).getD []) k).isSome = true from by simp [hx]]
        exact D2y h4 h1 it.mp iq.ql hx
  · cases Q with
    | none =>
      obtain ⟨e1, _⟩ := iq
      rw [e1] at h4
      exact does_nQ (st := st) inv (by rw [e1]; exact h4) h1 h2 h3 rfl (D3n h4 is.mp it.mp)
    | some z =>
      obtain ⟨R, kk⟩ := z
      obtain ⟨e1, e2, hkk⟩ := iq
      rw [e1] at h4
      rw [e2] at h3
      have hq : R.length < 16777000 := hq
      exact does_pQ (st := st) (n := R.length - kk + 1) inv (by rw [e1]; exact h4) h1 h2 (by rw [e2]; exact h3) rfl rfl (by simp [stepP, rep, qv]) (D3s h4 h3 is.mp it.mp (by decide) (by omega) (by omega))
  · cases Q with
    | none =>
      obtain ⟨e1, _⟩ := iq
      refine does_same inv h4 h1 h2 h3 rfl ?_
      rw [e1] at h4
      exact D4n h4 is.mp it.mp
    | some z =>
      obtain ⟨R, kk⟩ := z
      have iq' := iq
      obtain ⟨e1, e2, hkk⟩ := iq
      rw [e1] at h4
      rw [e2] at h3
      by_cases hlt : kk < R.length
      · have hd : R.drop kk = R[kk] :: R.drop (kk + 1) := List.drop_eq_getElem_cons hlt
        have es : stepP (rep S T (some (R, kk))) 4 k v = ((1, R[kk]), S.getD [], T.getD [], R.drop (kk + 1)) := by
          show (match R.drop kk with | [] => _ | x :: Q => ((1, x), S.getD [], T.getD [], Q)) = _
          rw [hd]
        refine does_Q (st := st) (R := R) (kk := kk) (n := R.length - kk - 1) inv (by rw [e1]; exact h4) h1 h2 (by rw [e2]; exact h3) rfl hlt (by omega) (by rw [es]; rfl) ?_
        rw [es]
        exact D4s h4 h3 is.mp it.mp (by decide) (by omega) (List.getElem?_eq_getElem hlt)
      · have hd : R.drop kk = [] := List.drop_eq_nil_of_le (by omega)
        have es : stepP (rep S T (some (R, kk))) 4 k v = ((2, 0), rep S T (some (R, kk))) := by
          simp [stepP, rep, qv, hd]
        refine does_same inv (by rw [e1]; exact h4) h1 h2 (by rw [e2]; exact h3) (by rw [es]) ?_
        rw [es]
        rw [show R.length - kk = 0 from by omega] at h4
        exact D4e h4 h3 is.mp it.mp (by decide)
  · cases T with
    | none =>
      obtain ⟨e1, _⟩ := it
      rw [e1] at h4
      refine does_nT (st := st) (w := v) (bn := [0]) (ck := 1) inv (by rw [e1]; exact h4) h1 h2 h3 (MapI.one hk hv) rfl (D5n h4 is.mp iq.ql)
    | some es =>
      obtain ⟨e1, bn, ck, e2, eI⟩ := it
      rw [e1] at h4
      rw [e2] at h2
      cases hx : getM es k with
      | none =>
        have ep : putP es k v = ((1, 0), putM es k v) := by simp [putP, hx]
        refine does_T (st := st) (es := putM es k v) (bn := bn ++ [ck]) (ck := ck + 1) inv (by rw [e1]; exact h4) h1 (by rw [e2]; exact h2) h3 (eI.put hk hv) e1 (by show (S.getD [], (putP es k v).2, qv Q) = _; rw [ep]; rfl) ?_
        show Sound _ _ ⟨_, [.tuple [.int .u8 (Int.ofNat (putP es k v).1.1), .int .u64 (putP es k v).1.2]], _⟩
        rw [ep]
        exact D5a h4 h2 is.mp iq.ql hx
      | some y =>
        have ep : putP es k v = ((2, 0), es) := by simp [putP, hx]
        refine does_same inv (by rw [e1]; exact h4) h1 (by rw [e2]; exact h2) h3 (by show (S.getD [], (putP es k v).2, qv Q) = _; rw [ep]; rfl) ?_
        show Sound _ _ ⟨_, [.tuple [.int .u8 (Int.ofNat (putP es k v).1.1), .int .u64 (putP es k v).1.2]], _⟩
        rw [ep]
        exact D5y h4 h2 is.mp iq.ql hx
  · cases T with
    | none =>
      obtain ⟨e1, _⟩ := it
      refine does_same inv h4 h1 h2 h3 rfl ?_
      rw [e1] at h4
      exact D6n h4 is.mp iq.ql
    | some es =>
      obtain ⟨e1, bn, ck, e2, eI⟩ := it
      rw [e1] at h4
      rw [e2] at h2
      cases hx : getM es k with
      | none =>
        have ep : dropP es k = ((2, 0), es) := by simp [dropP, hx]
        refine does_same inv (by rw [e1]; exact h4) h1 (by rw [e2]; exact h2) h3 (by show (S.getD [], (dropP es k).2, qv Q) = _; rw [ep]; rfl) ?_
        show Sound _ _ ⟨_, [.tuple [.int .u8 (Int.ofNat (dropP es k).1.1), .int .u64 (dropP es k).1.2]], _⟩
        rw [ep]
        exact D6a h4 h2 is.mp iq.ql hx
      | some y =>
        have ep : dropP es k = ((1, 0), delM es k) := by simp [dropP, hx]
        refine does_T (st := st) (es := delM es k) (bn := bn.eraseIdx (posM es k)) (ck := ck) inv (by rw [e1]; exact h4) h1 (by rw [e2]; exact h2) h3 (eI.del k) e1 (by show (S.getD [], (dropP es k).2, qv Q) = _; rw [ep]; rfl) ?_
        show Sound _ _ ⟨_, [.tuple [.int .u8 (Int.ofNat (dropP es k).1.1), .int .u64 (dropP es k).1.2]], _⟩
        rw [ep]
        exact D6y h4 h2 is.mp iq.ql hx
  · cases T with
    | none =>
      obtain ⟨e1, _⟩ := it
      refine does_same inv h4 h1 h2 h3 rfl ?_
      rw [e1] at h4
      exact D7n h4 is.mp iq.ql
    | some es =>
      obtain ⟨e1, bn, ck, e2, eI⟩ := it
      rw [e1] at h4
      rw [e2] at h2
      cases hx : getM es k with
      | none =>
        have eg : stepP (rep S (some es) Q) 7 k v = ((2, 0), rep S (some es) Q) := by
          simp [stepP, rep, hx]
        refine does_same inv (by rw [e1]; exact h4) h1 (by rw [e2]; exact h2) h3 (by rw [eg]) ?_
        rw [eg]
        exact D7a h4 h2 is.mp iq.ql hx
      | some y =>
        have eg : stepP (rep S (some es) Q) 7 k v = ((1, y), rep S (some es) Q) := by
          simp [stepP, rep, hx]
        refine does_same inv (by rw [e1]; exact h4) h1 (by rw [e2]; exact h2) h3 (by rw [eg]) ?_
        rw [eg]
        exact D7y h4 h2 is.mp iq.ql hx
  · obtain ⟨m, rfl⟩ : ∃ m, op = m + 8 := ⟨op - 8, by omega⟩
    exact does_same inv h4 h1 h2 h3 rfl (Sound.put (bs0 := []) (runX_sound mixed none_sound (d8 (m + 8) k v) ⟨by show lookupA Try.prog _ 76 (.map 5) (.int .u8 (Int.ofNat (m + 8))) true = some (.tuple [.nilFunc, .bool false]); kernel_rfl, trivial⟩) noG (fun b => b) [] s trivial (fun b hb => by cases hb) List.nodup_nil List.nodup_nil (fun b hb => by cases hb) rfl rfl)
end
end Go.Proofs.Ythooafgfpnedhaa.specsDo.sd
namespace Go.Proofs.Ythooafgfpnedhaa.specsDo.sd
open Go Go.Mini
def T15 (n : Nat) (a b : AV) (i : Nat) : List AV := .osl 0 0 n 2 :: uu :: uu :: uu :: a :: b :: .int .i64 (Int.ofNat i) :: List.replicate 24 uu
end Go.Proofs.Ythooafgfpnedhaa.specsDo.sd
namespace Go.Proofs.Ythooafgfpnedhaa.specsDo.sd
open Go Go.Mini
theorem ky_n (n i _ g : Nat) (x y : Int) (_ _ : AObj) (R _ _ _ _ : List AV) : runX Try.prog none_ 80 15 (.code (loopAt Try.prog 15 0) (T15 n .nilSlice .nilSlice i) ⟨⟨[(0, .cells true R)], 1, none, []⟩, 1⟩) [.val 15 3 3 (.bool true), .val 15 5 3 (.ptr 0 g), .val 15 5 5 (iW x), .val 15 6 3 (.ptr 0 g), .val 15 6 5 (iW y), .val 15 4 1 (iN (i + 1))] = some ({ e := .normal, ts := [.osl 0 0 n 2, jq, jq, jq, .osl 2 0 1 1, .osl 4 0 1 1, iN (i + 1), iN i, .osl 0 0 n 2, iN n, .bool true, iN i, iN (i + 1), .nilSlice, .osl 0 0 n 2, iN i, .ptr 0 g, .ptr 0 (g + 0), iW x, .slice 1 0 1 1, .osl 2 0 1 1, .nilSlice, .osl 0 0 n 2, iN i, .ptr 0 g, .ptr 0 (g + 1), iW y, .slice 3 0 1 1, .osl 4 0 1 1, jq, jq], s := ⟨⟨[(4, .cells false [iW y]), (3, .cells false [iW y]), (2, .cells false [iW x]), (1, .cells false [iW x]), (0, .cells true R)], 5, none, []⟩, 5⟩ }, [], [Qst.val (some (.bool (decide (Int.ofNat i < ((n : Nat) : Int))))) (.bool true), Qst.idx 38 (.osl 0 0 n 2) (iN i) (.ptr 0 g), Qst.ld 22 ⟨⟨[(0, .cells true R)], 1, none, []⟩, 1⟩ (.ptr 0 (g + 0)) (iW x), Qst.idx 38 (.osl 0 0 n 2) (iN i) (.ptr 0 g), Qst.ld 22 ⟨⟨[(2, .cells false [iW x]), (1, .cells false [iW x]), (0, .cells true R)], 3, none, []⟩, 3⟩ (.ptr 0 (g + 1)) (iW y), Qst.val (some (.int .i64 (IntKind.i64.wrap (Int.ofNat (i + 1))))) (iN (i + 1))]) := by kernel_rfl
theorem ky_s (n i k g : Nat) (x y : Int) (_ _ : AObj) (R D1 D2 D3 D4 : List AV) : runX Try.prog none_ 80 15 (.code (loopAt Try.prog 15 0) (T15 n (.osl 1 0 k 1) (.osl 2 0 k 1) i) ⟨⟨[(2, .cells false D2), (1, .cells false D1), (0, .cells true R)], 3, none, []⟩, 3⟩) [.val 15 3 3 (.bool true), .val 15 5 3 (.ptr 0 g), .val 15 5 5 (iW x), .eff 15 5 7 (.osl 4 0 (k + 1) 1) (fun s => (s.set 1 .dead).push (.cells false D3)), .val 15 6 3 (.ptr 0 g), .val 15 6 5 (iW y), .eff 15 6 7 (.osl 6 0 (k + 1) 1) (fun s => (s.set 2 .dead).push (.cells false D4)), .val 15 4 1 (iN (i + 1))] = some ({ e := .normal, ts := [.osl 0 0 n 2, jq, jq, jq, .osl 4 0 (k + 1) 1, .osl 6 0 (k + 1) 1, iN (i + 1), iN i, .osl 0 0 n 2, iN n, .bool true, iN i, iN (i + 1), .osl 1 0 k 1, .osl 0 0 n 2, iN i, .ptr 0 g, .ptr 0 (g + 0), iW x, .slice 3 0 1 1, .osl 4 0 (k + 1) 1, .osl 2 0 k 1, .osl 0 0 n 2, iN i, .ptr 0 g, .ptr 0 (g + 1), iW y, .slice 5 0 1 1, .osl 6 0 (k + 1) 1, jq, jq], s := ⟨⟨[(6, .cells false D4), (5, .cells false [iW y]), (4, .cells false D3), (3, .cells false [iW x]), (2, .dead), (1, .dead), (0, .cells true R)], 7, none, [2, 1]⟩, 7⟩ }, [], [Qst.val (some (.bool (decide (Int.ofNat i < ((n : Nat) : Int))))) (.bool true), Qst.idx 38 (.osl 0 0 n 2) (iN i) (.ptr 0 g), Qst.ld 22 ⟨⟨[(2, .cells false D2), (1, .cells false D1), (0, .cells true R)], 3, none, []⟩, 3⟩ (.ptr 0 (g + 0)) (iW x), Qst.app ⟨⟨[(3, .cells false [iW x]), (2, .cells false D2), (1, .cells false D1), (0, .cells true R)], 4, none, []⟩, 4⟩ 30 30 (.osl 1 0 k 1) (.slice 3 0 1 1) (.osl 4 0 (k + 1) 1) ⟨⟨[(4, .cells false D3), (3, .cells false [iW x]), (2, .cells false D2), (1, .dead), (0, .cells true R)], 5, none, [1]⟩, 5⟩, Qst.idx 38 (.osl 0 0 n 2) (iN i) (.ptr 0 g), Qst.ld 22 ⟨⟨[(4, .cells false D3), (3, .cells false [iW x]), (2, .cells false D2), (1, .dead), (0, .cells true R)], 5, none, [1]⟩, 5⟩ (.ptr 0 (g + 1)) (iW y), Qst.app ⟨⟨[(5, .cells false [iW y]), (4, .cells false D3), (3, .cells false [iW x]), (2, .cells false D2), (1, .dead), (0, .cells true R)], 6, none, [1]⟩, 6⟩ 30 30 (.osl 2 0 k 1) (.slice 5 0 1 1) (.osl 6 0 (k + 1) 1) ⟨⟨[(6, .cells false D4), (5, .cells false [iW y]), (4, .cells false D3), (3, .cells false [iW x]), (2, .dead), (1, .dead), (0, .cells true R)], 7, none, [2, 1]⟩, 7⟩, Qst.val (some (.int .i64 (IntKind.i64.wrap (Int.ofNat (i + 1))))) (iN (i + 1))]) := by kernel_rfl
theorem ky_end (n i k _ : Nat) (_ _ : Int) (_ _ : AObj) (R D1 D2 _ _ : List AV) : runX Try.prog none_ 80 15 (.code (loopAt Try.prog 15 0) (T15 n (.osl 1 0 k 1) (.osl 2 0 k 1) i) ⟨⟨[(2, .cells false D2), (1, .cells false D1), (0, .cells true R)], 3, none, []⟩, 3⟩) [.val 15 3 3 (.bool false)] = some ({ e := .exit 0, ts := [.osl 0 0 n 2, jq, jq, jq, .osl 1 0 k 1, .osl 2 0 k 1, iN i, iN i, .osl 0 0 n 2, iN n, .bool false, jq, jq, jq, jq, jq, jq, jq, jq, jq, jq, jq, jq, jq, jq, jq, jq, jq, jq, jq, jq], s := ⟨⟨[(2, .cells false D2), (1, .cells false D1), (0, .cells true R)], 3, none, []⟩, 3⟩ }, [], [Qst.val (some (.bool (decide (Int.ofNat i < ((n : Nat) : Int))))) (.bool false)]) := by kernel_rfl
theorem ky_call (n _ _ _ : Nat) (_ _ : Int) (_ _ : AObj) (R D1 D2 _ _ : List AV) : runX Try.prog none_ 80 15 (.call 15 [.osl 0 0 n 2] ⟨⟨[(0, .cells true R)], 1, none, []⟩, 1⟩) [.loop 15 (fun _ s => ⟨.exit 0, T15 n (.osl 1 0 n 1) (.osl 2 0 n 1) n, (s.push (.cells false D1)).push (.cells false D2)⟩)] = some ({ e := .ret, ts := [.tuple [.osl 1 0 n 1, .osl 2 0 n 1]], s := ⟨⟨[(2, .cells false D2), (1, .cells false D1), (0, .cells true R)], 3, none, []⟩, 3⟩ }, [], [Qst.snd (Task.code (Code.loop (loopAt Try.prog 15 0)) [.osl 0 0 n 2, uD, .nilSlice, .nilSlice, .nilSlice, .nilSlice, iN 0, uD, uD, uD, uD, uD, uD, uD, uD, uD, uD, uD, uD, uD, uD, uD, uD, uD, uD, uD, uD, uD, uD, uD, uD] ⟨⟨[(0, .cells true R)], 1, none, []⟩, 1⟩) { e := .exit 0, ts := [.osl 0 0 n 2, jq, jq, jq, .osl 1 0 n 1, .osl 2 0 n 1, iN n, jq, jq, jq, jq, jq, jq, jq, jq, jq, jq, jq, jq, jq, jq, jq, jq, jq, jq, jq, jq, jq, jq, jq, jq], s := ⟨⟨[(2, .cells false D2), (1, .cells false D1), (0, .cells true R)], 3, none, []⟩, 3⟩ }]) := by kernel_rfl
theorem ky_nil (_ _ _ _ : Nat) (_ _ : Int) (_ _ : AObj) (_ _ _ _ _ : List AV) : runX Try.prog none_ 80 15 (.call 15 [.nilSlice] ⟨⟨[], 0, none, []⟩, 1⟩) [] = some ({ e := .ret, ts := [.tuple [.nilSlice, .nilSlice]], s := ⟨⟨[], 0, none, []⟩, 1⟩ }, [], []) := by kernel_rfl
end Go.Proofs.Ythooafgfpnedhaa.specsDo.sd
namespace Go.Proofs.Ythooafgfpnedhaa.specsDo
open Go Go.Mini
/-! ### specs.Judge -/
theorem bq {b r : Bool} (h : b = r) : (Qst.val (some (AV.bool b)) (AV.bool r)).ok Try.prog := congrArg (fun z => some (AV.bool z)) h
end Go.Proofs.Ythooafgfpnedhaa.specsDo
namespace Go.Proofs.Ythooafgfpnedhaa.specsDo
open Go Go.Mini
def TF (lA : AV) (k : Int) (i : Nat) : List AV := lA :: .int .u64 k :: uu :: uu :: .int .i64 (Int.ofNat 0) :: .bool false :: .int .i64 (Int.ofNat i) :: List.replicate 29 uu
theorem fd_go (lA _ _ _ _ : AV) (_ n i _ a _ : Nat) (_ : Bool) (k _ x _ _ _ _ _ _ _ _ _ : Int) (_ _ _ : AObj) (row _ : List AV) : runX Try.prog none_ 80 31 (.code (loopAt Try.prog 31 0) (TF lA k i) ⟨⟨[(0, .cells true row)], 1, none, []⟩, 1⟩) [.val 31 2 2 (iN n), .val 31 2 3 (.bool true), .val 31 2 7 (.ptr 0 a), .val 31 2 9 (iW x), .val 31 2 11 (.bool true), .val 31 3 1 (iN (i + 1))] = some ({ e := .normal, ts := [lA, iW k, jq, jq, iN 0, .bool false, iN (i + 1), iN i, lA, iN n, .bool true, .bool true, lA, iN i, .ptr 0 a, .ptr 0 (a + 0), iW x, iW k, .bool true, .bool true, iN i, iN (i + 1), jq, jq, jq, jq, jq, jq, jq, jq, jq, jq, jq, jq, jq, jq], s := ⟨⟨[(0, .cells true row)], 1, none, []⟩, 1⟩ }, [], [Qst.ln 38 ⟨⟨[(0, .cells true row)], 1, none, []⟩, 1⟩ lA (iN n), Qst.val (some (.bool (decide (Int.ofNat i < Int.ofNat n)))) (.bool true), Qst.idx 38 lA (iN i) (.ptr 0 a), Qst.ld 22 ⟨⟨[(0, .cells true row)], 1, none, []⟩, 1⟩ (.ptr 0 (a + 0)) (iW x), Qst.val (some (.bool (decide (x < k)))) (.bool true), Qst.val (some (.int .i64 (IntKind.i64.wrap (Int.ofNat (i + 1))))) (iN (i + 1))]) := by kernel_rfl
theorem fd_stop (lA _ _ _ _ : AV) (_ n i _ a _ : Nat) (_ : Bool) (k _ x _ _ _ _ _ _ _ _ _ : Int) (_ _ _ : AObj) (row _ : List AV) : runX Try.prog none_ 80 31 (.code (loopAt Try.prog 31 0) (TF lA k i) ⟨⟨[(0, .cells true row)], 1, none, []⟩, 1⟩) [.val 31 2 2 (iN n), .val 31 2 3 (.bool true), .val 31 2 7 (.ptr 0 a), .val 31 2 9 (iW x), .val 31 2 11 (.bool false)] = some ({ e := .exit 0, ts := [lA, iW k, jq, jq, iN 0, .bool false, iN i, iN i, lA, iN n, .bool true, .bool true, lA, iN i, .ptr 0 a, .ptr 0 (a + 0), iW x, iW k, .bool false, .bool false, jq, jq, jq, jq, jq, jq, jq, jq, jq, jq, jq, jq, jq, jq, jq, jq], s := ⟨⟨[(0, .cells true row)], 1, none, []⟩, 1⟩ }, [], [Qst.ln 38 ⟨⟨[(0, .cells true row)], 1, none, []⟩, 1⟩ lA (iN n), Qst.val (some (.bool (decide (Int.ofNat i < Int.ofNat n)))) (.bool true), Qst.idx 38 lA (iN i) (.ptr 0 a), Qst.ld 22 ⟨⟨[(0, .cells true row)], 1, none, []⟩, 1⟩ (.ptr 0 (a + 0)) (iW x), Qst.val (some (.bool (decide (x < k)))) (.bool false)]) := by kernel_rfl
theorem fd_end (lA _ _ _ _ : AV) (_ n i _ _ _ : Nat) (_ : Bool) (k _ _ _ _ _ _ _ _ _ _ _ : Int) (_ _ _ : AObj) (row _ : List AV) : runX Try.prog none_ 80 31 (.code (loopAt Try.prog 31 0) (TF lA k i) ⟨⟨[(0, .cells true row)], 1, none, []⟩, 1⟩) [.val 31 2 2 (iN n), .val 31 2 3 (.bool false)] = some ({ e := .exit 0, ts := [lA, iW k, jq, jq, iN 0, .bool false, iN i, iN i, lA, iN n, .bool false, .bool false, uD, uD, uD, uD, uD, uD, uD, .bool false, jq, jq, jq, jq, jq, jq, jq, jq, jq, jq, jq, jq, jq, jq, jq, jq], s := ⟨⟨[(0, .cells true row)], 1, none, []⟩, 1⟩ }, [], [Qst.ln 38 ⟨⟨[(0, .cells true row)], 1, none, []⟩, 1⟩ lA (iN n), Qst.val (some (.bool (decide (Int.ofNat i < Int.ofNat n)))) (.bool false)]) := by kernel_rfl
theorem fd_in (_ _ _ _ _ : AV) (_ n i _ a _ : Nat) (c : Bool) (k _ x _ _ _ _ _ _ _ _ _ : Int) (_ _ _ : AObj) (row _ : List AV) : runX Try.prog none_ 80 31 (.call 31 [.osl 0 0 n 2, iW k] ⟨⟨[(0, .cells true row)], 1, none, []⟩, 1⟩) [.loop 31 (fun _ s => ⟨.exit 0, TF (.osl 0 0 n 2) k i, s⟩), .val 31 4 4 (.bool true), .val 31 4 8 (.ptr 0 a), .val 31 4 10 (iW x), .val 31 4 12 (.bool c)] = some ({ e := .ret, ts := [.tuple [iN i, .bool c]], s := ⟨⟨[(0, .cells true row)], 1, none, []⟩, 1⟩ }, [], [Qst.snd (Task.code (Code.loop (loopAt Try.prog 31 0)) [.osl 0 0 n 2, iW k, uD, uD, iN 0, .bool false, iN 0, uD, uD, uD, uD, uD, uD, uD, uD, uD, uD, uD, uD, uD, uD, uD, uD, uD, uD, uD, uD, uD, uD, uD, uD, uD, uD, uD, uD, uD] ⟨⟨[(0, .cells true row)], 1, none, []⟩, 1⟩) { e := .exit 0, ts := [.osl 0 0 n 2, iW k, jq, jq, iN 0, .bool false, iN i, jq, jq, jq, jq, jq, jq, jq, jq, jq, jq, jq, jq, jq, jq, jq, jq, jq, jq, jq, jq, jq, jq, jq, jq, jq, jq, jq, jq, jq], s := ⟨⟨[(0, .cells true row)], 1, none, []⟩, 1⟩ }, Qst.val (some (.bool (decide (Int.ofNat i < ((n : Nat) : Int))))) (.bool true), Qst.idx 38 (.osl 0 0 n 2) (iN i) (.ptr 0 a), Qst.ld 22 ⟨⟨[(0, .cells true row)], 1, none, []⟩, 1⟩ (.ptr 0 (a + 0)) (iW x), Qst.val (some (.bool (x == k))) (.bool c)]) := by kernel_rfl
theorem fd_out (_ _ _ _ _ : AV) (_ n i _ _ _ : Nat) (_ : Bool) (k _ _ _ _ _ _ _ _ _ _ _ : Int) (_ _ _ : AObj) (row _ : List AV) : runX Try.prog none_ 80 31 (.call 31 [.osl 0 0 n 2, iW k] ⟨⟨[(0, .cells true row)], 1, none, []⟩, 1⟩) [.loop 31 (fun _ s => ⟨.exit 0, TF (.osl 0 0 n 2) k i, s⟩), .val 31 4 4 (.bool false)] = some ({ e := .ret, ts := [.tuple [iN i, .bool false]], s := ⟨⟨[(0, .cells true row)], 1, none, []⟩, 1⟩ }, [], [Qst.snd (Task.code (Code.loop (loopAt Try.prog 31 0)) [.osl 0 0 n 2, iW k, uD, uD, iN 0, .bool false, iN 0, uD, uD, uD, uD, uD, uD, uD, uD, uD, uD, uD, uD, uD, uD, uD, uD, uD, uD, uD, uD, uD, uD, uD, uD, uD, uD, uD, uD, uD] ⟨⟨[(0, .cells true row)], 1, none, []⟩, 1⟩) { e := .exit 0, ts := [.osl 0 0 n 2, iW k, jq, jq, iN 0, .bool false, iN i, jq, jq, jq, jq, jq, jq, jq, jq, jq, jq, jq, jq, jq, jq, jq, jq, jq, jq, jq, jq, jq, jq, jq, jq, jq, jq, jq, jq, jq], s := ⟨⟨[(0, .cells true row)], 1, none, []⟩, 1⟩ }, Qst.val (some (.bool (decide (Int.ofNat i < ((n : Nat) : Int))))) (.bool false)]) := by kernel_rfl
theorem fd_nil (_ _ _ _ _ : AV) (_ _ _ _ _ _ : Nat) (_ : Bool) (k _ _ _ _ _ _ _ _ _ _ _ : Int) (_ _ _ : AObj) (_ _ : List AV) : runX Try.prog none_ 80 31 (.call 31 [.nilSlice, iW k] ⟨⟨[], 0, none, []⟩, 1⟩) [] = some ({ e := .ret, ts := [.tuple [iN 0, .bool false]], s := ⟨⟨[], 0, none, []⟩, 1⟩ }, [], []) := by kernel_rfl
theorem wi_0 (_ _ _ _ _ : AV) (_ _ _ _ _ _ : Nat) (_ : Bool) (k v _ _ _ _ _ _ _ _ _ _ : Int) (_ _ _ : AObj) (_ _ : List AV) : runX Try.prog none_ 80 32 (.call 32 [.nilSlice, (iN 0), .agg [iW k, iW v]] ⟨⟨[], 0, none, []⟩, 1⟩) [] = some ({ e := .ret, ts := [.osl 3 0 1 2], s := ⟨⟨[(3, .cells false [iW k, iW v]), (2, .cells false [iW k, iW v]), (1, .cells false [iW k, iW v])], 3, none, []⟩, 4⟩ }, [], []) := by kernel_rfl
theorem wi_l (_ _ _ _ _ : AV) (_ n i _ _ _ : Nat) (_ : Bool) (k v _ _ _ _ _ _ _ _ _ _ : Int) (_ M2 _ : AObj) (row _ : List AV) : runX Try.prog none_ 80 32 (.call 32 [.osl 0 0 n 2, (iN i), .agg [iW k, iW v]] ⟨⟨[(0, .cells true row)], 1, none, []⟩, 1⟩) [.val 32 1 2 (.osl 0 0 0 2), .val 32 1 9 (.osl 0 0 n 2), .eff 32 1 3 .nilSlice (fun s => s), .eff 32 1 10 (.osl 4 0 (n + 1) 2) (fun s => (s.set 3 .dead).push M2)] = some ({ e := .ret, ts := [.osl 4 0 (n + 1) 2], s := ⟨⟨[(4, M2), (3, .dead), (2, .cells false [iW k, iW v]), (1, .cells false [iW k, iW v]), (0, .cells true row)], 5, none, []⟩, 5⟩ }, [], [Qst.sli 38 (.osl 0 0 n 2) none (some (iN i)) none (.osl 0 0 0 2), Qst.sli 38 (.osl 0 0 n 2) (some (iN i)) none none (.osl 0 0 n 2), Qst.app ⟨⟨[(2, .cells false [iW k, iW v]), (1, .cells false [iW k, iW v]), (0, .cells true row)], 3, none, []⟩, 3⟩ 38 38 .nilSlice (.osl 0 0 0 2) .nilSlice ⟨⟨[(2, .cells false [iW k, iW v]), (1, .cells false [iW k, iW v]), (0, .cells true row)], 3, none, []⟩, 3⟩, Qst.app ⟨⟨[(3, .cells false [iW k, iW v]), (2, .cells false [iW k, iW v]), (1, .cells false [iW k, iW v]), (0, .cells true row)], 4, none, []⟩, 4⟩ 38 38 (.osl 3 0 1 2) (.osl 0 0 n 2) (.osl 4 0 (n + 1) 2) ⟨⟨[(4, M2), (3, .dead), (2, .cells false [iW k, iW v]), (1, .cells false [iW k, iW v]), (0, .cells true row)], 5, none, [3]⟩, 5⟩]) := by kernel_rfl
theorem wi_m (_ _ _ _ _ : AV) (_ n i j _ d : Nat) (_ : Bool) (k v _ _ _ _ _ _ _ _ _ _ : Int) (M1 M2 M3 : AObj) (row _ : List AV) : runX Try.prog none_ 80 32 (.call 32 [.osl 0 0 n 2, (iN i), .agg [iW k, iW v]] ⟨⟨[(0, .cells true row)], 1, none, []⟩, 1⟩) [.val 32 1 2 (.osl 0 0 i 2), .val 32 1 9 (.osl 0 d j 2), .eff 32 1 3 (.osl 3 0 i 2) (fun s => s.push M1), .eff 32 1 6 (.osl 4 0 (i + 1) 2) (fun s => (s.set 3 .dead).push M2), .eff 32 1 10 (.osl 5 0 (n + 1) 2) (fun s => (s.set 4 .dead).push M3)] = some ({ e := .ret, ts := [.osl 5 0 (n + 1) 2], s := ⟨⟨[(5, M3), (4, .dead), (3, .dead), (2, .cells false [iW k, iW v]), (1, .cells false [iW k, iW v]), (0, .cells true row)], 6, none, []⟩, 6⟩ }, [], [Qst.sli 38 (.osl 0 0 n 2) none (some (iN i)) none (.osl 0 0 i 2), Qst.sli 38 (.osl 0 0 n 2) (some (iN i)) none none (.osl 0 d j 2), Qst.app ⟨⟨[(2, .cells false [iW k, iW v]), (1, .cells false [iW k, iW v]), (0, .cells true row)], 3, none, []⟩, 3⟩ 38 38 .nilSlice (.osl 0 0 i 2) (.osl 3 0 i 2) ⟨⟨[(3, M1), (2, .cells false [iW k, iW v]), (1, .cells false [iW k, iW v]), (0, .cells true row)], 4, none, []⟩, 4⟩, Qst.app ⟨⟨[(3, M1), (2, .cells false [iW k, iW v]), (1, .cells false [iW k, iW v]), (0, .cells true row)], 4, none, []⟩, 4⟩ 38 38 (.osl 3 0 i 2) (.slice 2 0 1 1) (.osl 4 0 (i + 1) 2) ⟨⟨[(4, M2), (3, .dead), (2, .cells false [iW k, iW v]), (1, .cells false [iW k, iW v]), (0, .cells true row)], 5, none, [3]⟩, 5⟩, Qst.app ⟨⟨[(4, M2), (3, .dead), (2, .cells false [iW k, iW v]), (1, .cells false [iW k, iW v]), (0, .cells true row)], 5, none, [3]⟩, 5⟩ 38 38 (.osl 4 0 (i + 1) 2) (.osl 0 d j 2) (.osl 5 0 (n + 1) 2) ⟨⟨[(5, M3), (4, .dead), (3, .dead), (2, .cells false [iW k, iW v]), (1, .cells false [iW k, iW v]), (0, .cells true row)], 6, none, [4, 3]⟩, 6⟩]) := by kernel_rfl
theorem wi_e (_ _ _ _ _ : AV) (_ n i _ _ d : Nat) (_ : Bool) (k v _ _ _ _ _ _ _ _ _ _ : Int) (M1 M2 _ : AObj) (row _ : List AV) : runX Try.prog none_ 80 32 (.call 32 [.osl 0 0 n 2, (iN i), .agg [iW k, iW v]] ⟨⟨[(0, .cells true row)], 1, none, []⟩, 1⟩) [.val 32 1 2 (.osl 0 0 i 2), .val 32 1 9 (.osl 0 d 0 2), .eff 32 1 3 (.osl 3 0 i 2) (fun s => s.push M1), .eff 32 1 6 (.osl 4 0 (i + 1) 2) (fun s => (s.set 3 .dead).push M2), .eff 32 1 10 (.osl 4 0 (i + 1) 2) (fun s => s)] = some ({ e := .ret, ts := [.osl 4 0 (i + 1) 2], s := ⟨⟨[(4, M2), (3, .dead), (2, .cells false [iW k, iW v]), (1, .cells false [iW k, iW v]), (0, .cells true row)], 5, none, []⟩, 5⟩ }, [], [Qst.sli 38 (.osl 0 0 n 2) none (some (iN i)) none (.osl 0 0 i 2), Qst.sli 38 (.osl 0 0 n 2) (some (iN i)) none none (.osl 0 d 0 2), Qst.app ⟨⟨[(2, .cells false [iW k, iW v]), (1, .cells false [iW k, iW v]), (0, .cells true row)], 3, none, []⟩, 3⟩ 38 38 .nilSlice (.osl 0 0 i 2) (.osl 3 0 i 2) ⟨⟨[(3, M1), (2, .cells false [iW k, iW v]), (1, .cells false [iW k, iW v]), (0, .cells true row)], 4, none, []⟩, 4⟩, Qst.app ⟨⟨[(3, M1), (2, .cells false [iW k, iW v]), (1, .cells false [iW k, iW v]), (0, .cells true row)], 4, none, []⟩, 4⟩ 38 38 (.osl 3 0 i 2) (.slice 2 0 1 1) (.osl 4 0 (i + 1) 2) ⟨⟨[(4, M2), (3, .dead), (2, .cells false [iW k, iW v]), (1, .cells false [iW k, iW v]), (0, .cells true row)], 5, none, [3]⟩, 5⟩, Qst.app ⟨⟨[(4, M2), (3, .dead), (2, .cells false [iW k, iW v]), (1, .cells false [iW k, iW v]), (0, .cells true row)], 5, none, [3]⟩, 5⟩ 38 38 (.osl 4 0 (i + 1) 2) (.osl 0 d 0 2) (.osl 4 0 (i + 1) 2) ⟨⟨[(4, M2), (3, .dead), (2, .cells false [iW k, iW v]), (1, .cells false [iW k, iW v]), (0, .cells true row)], 5, none, [3]⟩, 5⟩]) := by kernel_rfl
theorem wo_0 (_ _ _ _ _ : AV) (_ n i _ _ d : Nat) (_ : Bool) (_ _ _ _ _ _ _ _ _ _ _ _ : Int) (_ _ _ : AObj) (row _ : List AV) : runX Try.prog none_ 80 34 (.call 34 [.osl 0 0 n 2, (iN i)] ⟨⟨[(0, .cells true row)], 1, none, []⟩, 1⟩) [.val 34 1 2 (.osl 0 0 0 2), .val 34 1 6 (iN (i + 1)), .val 34 1 7 (.osl 0 d 0 2), .eff 34 1 3 .nilSlice (fun s => s), .eff 34 1 8 .nilSlice (fun s => s)] = some ({ e := .ret, ts := [.nilSlice], s := ⟨⟨[(0, .cells true row)], 1, none, []⟩, 1⟩ }, [], [Qst.sli 38 (.osl 0 0 n 2) none (some (iN i)) none (.osl 0 0 0 2), Qst.val (some (.int .i64 (IntKind.i64.wrap (Int.ofNat (i + 1))))) (iN (i + 1)), Qst.sli 38 (.osl 0 0 n 2) (some (iN (i + 1))) none none (.osl 0 d 0 2), Qst.app ⟨⟨[(0, .cells true row)], 1, none, []⟩, 1⟩ 38 38 .nilSlice (.osl 0 0 0 2) .nilSlice ⟨⟨[(0, .cells true row)], 1, none, []⟩, 1⟩, Qst.app ⟨⟨[(0, .cells true row)], 1, none, []⟩, 1⟩ 38 38 .nilSlice (.osl 0 d 0 2) .nilSlice ⟨⟨[(0, .cells true row)], 1, none, []⟩, 1⟩]) := by kernel_rfl
theorem wo_l (_ _ _ _ _ : AV) (_ n i j _ d : Nat) (_ : Bool) (_ _ _ _ _ _ _ _ _ _ _ _ : Int) (M1 _ _ : AObj) (row _ : List AV) : runX Try.prog none_ 80 34 (.call 34 [.osl 0 0 n 2, (iN i)] ⟨⟨[(0, .cells true row)], 1, none, []⟩, 1⟩) [.val 34 1 2 (.osl 0 0 0 2), .val 34 1 6 (iN (i + 1)), .val 34 1 7 (.osl 0 d j 2), .eff 34 1 3 .nilSlice (fun s => s), .eff 34 1 8 (.osl 1 0 j 2) (fun s => s.push M1)] = some ({ e := .ret, ts := [.osl 1 0 j 2], s := ⟨⟨[(1, M1), (0, .cells true row)], 2, none, []⟩, 2⟩ }, [], [Qst.sli 38 (.osl 0 0 n 2) none (some (iN i)) none (.osl 0 0 0 2), Qst.val (some (.int .i64 (IntKind.i64.wrap (Int.ofNat (i + 1))))) (iN (i + 1)), Qst.sli 38 (.osl 0 0 n 2) (some (iN (i + 1))) none none (.osl 0 d j 2), Qst.app ⟨⟨[(0, .cells true row)], 1, none, []⟩, 1⟩ 38 38 .nilSlice (.osl 0 0 0 2) .nilSlice ⟨⟨[(0, .cells true row)], 1, none, []⟩, 1⟩, Qst.app ⟨⟨[(0, .cells true row)], 1, none, []⟩, 1⟩ 38 38 .nilSlice (.osl 0 d j 2) (.osl 1 0 j 2) ⟨⟨[(1, M1), (0, .cells true row)], 2, none, []⟩, 2⟩]) := by kernel_rfl
theorem wo_e (_ _ _ _ _ : AV) (_ n i _ _ d : Nat) (_ : Bool) (_ _ _ _ _ _ _ _ _ _ _ _ : Int) (M1 _ _ : AObj) (row _ : List AV) : runX Try.prog none_ 80 34 (.call 34 [.osl 0 0 n 2, (iN i)] ⟨⟨[(0, .cells true row)], 1, none, []⟩, 1⟩) [.val 34 1 2 (.osl 0 0 i 2), .val 34 1 6 (iN (i + 1)), .val 34 1 7 (.osl 0 d 0 2), .eff 34 1 3 (.osl 1 0 i 2) (fun s => s.push M1), .eff 34 1 8 (.osl 1 0 i 2) (fun s => s)] = some ({ e := .ret, ts := [.osl 1 0 i 2], s := ⟨⟨[(1, M1), (0, .cells true row)], 2, none, []⟩, 2⟩ }, [], [Qst.sli 38 (.osl 0 0 n 2) none (some (iN i)) none (.osl 0 0 i 2), Qst.val (some (.int .i64 (IntKind.i64.wrap (Int.ofNat (i + 1))))) (iN (i + 1)), Qst.sli 38 (.osl 0 0 n 2) (some (iN (i + 1))) none none (.osl 0 d 0 2), Qst.app ⟨⟨[(0, .cells true row)], 1, none, []⟩, 1⟩ 38 38 .nilSlice (.osl 0 0 i 2) (.osl 1 0 i 2) ⟨⟨[(1, M1), (0, .cells true row)], 2, none, []⟩, 2⟩, Qst.app ⟨⟨[(1, M1), (0, .cells true row)], 2, none, []⟩, 2⟩ 38 38 (.osl 1 0 i 2) (.osl 0 d 0 2) (.osl 1 0 i 2) ⟨⟨[(1, M1), (0, .cells true row)], 2, none, []⟩, 2⟩]) := by kernel_rfl
theorem wo_m (_ _ _ _ _ : AV) (_ n i j _ d : Nat) (_ : Bool) (_ _ _ _ _ _ _ _ _ _ _ _ : Int) (M1 M2 _ : AObj) (row _ : List AV) : runX Try.prog none_ 80 34 (.call 34 [.osl 0 0 n 2, (iN i)] ⟨⟨[(0, .cells true row)], 1, none, []⟩, 1⟩) [.val 34 1 2 (.osl 0 0 i 2), .val 34 1 6 (iN (i + 1)), .val 34 1 7 (.osl 0 d j 2), .eff 34 1 3 (.osl 1 0 i 2) (fun s => s.push M1), .eff 34 1 8 (.osl 2 0 (i + j) 2) (fun s => (s.set 1 .dead).push M2)] = some ({ e := .ret, ts := [.osl 2 0 (i + j) 2], s := ⟨⟨[(2, M2), (1, .dead), (0, .cells true row)], 3, none, []⟩, 3⟩ }, [], [Qst.sli 38 (.osl 0 0 n 2) none (some (iN i)) none (.osl 0 0 i 2), Qst.val (some (.int .i64 (IntKind.i64.wrap (Int.ofNat (i + 1))))) (iN (i + 1)), Qst.sli 38 (.osl 0 0 n 2) (some (iN (i + 1))) none none (.osl 0 d j 2), Qst.app ⟨⟨[(0, .cells true row)], 1, none, []⟩, 1⟩ 38 38 .nilSlice (.osl 0 0 i 2) (.osl 1 0 i 2) ⟨⟨[(1, M1), (0, .cells true row)], 2, none, []⟩, 2⟩, Qst.app ⟨⟨[(1, M1), (0, .cells true row)], 2, none, []⟩, 2⟩ 38 38 (.osl 1 0 i 2) (.osl 0 d j 2) (.osl 2 0 (i + j) 2) ⟨⟨[(2, M2), (1, .dead), (0, .cells true row)], 3, none, [1]⟩, 3⟩]) := by kernel_rfl
end Go.Proofs.Ythooafgfpnedhaa.specsDo
namespace Go.Proofs.Ythooafgfpnedhaa.specsDo
open Go Go.Mini
/-! ### rows cut and put together -/
theorem rowsOf_append {α : Type} {f : α → List AV} (a b : List α) : rowsOf f (a ++ b) = rowsOf f a ++ rowsOf f b := by simp [rowsOf]
theorem rowsOf_len {α : Type} {f : α → List AV} {n : Nat} (hf : ∀ x, (f x).length = n) : ∀ l : List α, (rowsOf f l).length = l.length * n
  | [] => by simp [rowsOf]
  | x :: l => by
    have h := rowsOf_len hf l
    show (f x ++ rowsOf f l).length = _
    rw [List.length_append, hf, h, List.length_cons, Nat.succ_mul, Nat.add_comm]
section
variable {α : Type} {f : α → List AV} {n : Nat} (hf : ∀ x, (f x).length = n) {s : AS} {b : Nat} {ro : Bool} {l : List α}
include hf
theorem first_take (h : s.get b = some (.cells ro (rowsOf f l))) {i : Nat} (hi : i ≤ l.length) : firstA s n i (.osl b 0 i n) = some (rowsOf f (l.take i)) := by
  simp only [firstA, readA, h, List.drop_zero]
  rw [show rowsOf f l = rowsOf f (l.take i) ++ rowsOf f (l.drop i) from by rw [← rowsOf_append, List.take_append_drop]]
  refine takeN_row ?_
  rw [rowsOf_len hf, List.length_take, Nat.min_eq_left hi]
theorem first_drop (h : s.get b = some (.cells ro (rowsOf f l))) {i : Nat} (hi : i ≤ l.length) : firstA s n (l.length - i) (.osl b (i * n) (l.length - i) n) = some (rowsOf f (l.drop i)) := by
  simp only [firstA, readA, h]
  have e : (rowsOf f l).drop (i * n) = rowsOf f (l.drop i) := by
    conv => lhs; rw [show rowsOf f l = rowsOf f (l.take i) ++ rowsOf f (l.drop i) from by rw [← rowsOf_append, List.take_append_drop]]
    refine List.drop_left' ?_
    rw [rowsOf_len hf, List.length_take, Nat.min_eq_left hi]
  rw [e]
  refine takeN_all ?_
  rw [rowsOf_len hf, List.length_drop]
end
section
variable {t t2 : TypeId} {n b k m : Nat} {s : AS} {y : AV} {E R : List AV} (ht : rowT Try.prog t t2 n = true) (hy : sliceLen y = some m) (hF : firstA s n m y = some E) (ho : E.all AV.one = true)
include ht hy hF ho
theorem app_ox (hb : s.get b = some (.cells false R)) (hR : R.length = k * n) (hr : R.all AV.one = true) (hm : m ≠ 0) (hk : k + m ≤ 16777216) :
    appendA Try.prog s t t2 (.osl b 0 k n) y = some (.osl s.nx 0 (k + m) n, (s.set b .dead).push (.cells false (R ++ E))) := by
  obtain ⟨elem, e2, i, z, size, u1, u2, u3, u4, u5, rfl, u6, u7⟩ := rowT_inv ht
  have hd : readA s b 0 (k * (size + 1)) = some R := by
    simp only [readA, hb, List.drop_zero]
    exact takeN_all hR
  have hs : small (k + m) = true := Nat.ble_eq_true_of_le hk
  have hw : rwAt s b = true := by simp only [rwAt, hb]
  have hz : Nat.beq (size + 1) (size + 1) = true := Nat.beq_refl _
  have h10 : Nat.beq m 0 = false := by
    cases m
    · exact absurd rfl hm
    · rfl
  simp only [appendA, u1, u2, u3, u4, u5, hy, u6, u7, hF, ho, hd, hs, hw, hr, hz, h10, Bool.and_self, Bool.not_true, Bool.false_eq_true, if_false, if_true]
theorem app_nx (hm : m ≠ 0) (hk : m ≤ 16777216) : appendA Try.prog s t t2 .nilSlice y = some (.osl s.nx 0 m n, s.push (.cells false E)) := by
  obtain ⟨elem, e2, i, z, size, u1, u2, u3, u4, u5, rfl, u6, u7⟩ := rowT_inv ht
  have hs : small m = true := Nat.ble_eq_true_of_le hk
  have h10 : Nat.beq m 0 = false := by
    cases m
    · exact absurd rfl hm
    · rfl
  simp only [appendA, u1, u2, u3, u4, u5, hy, u6, u7, hF, ho, hs, h10, Bool.and_self, Bool.not_true, Bool.false_eq_true, if_false, if_true]
theorem app_n0 (hm : m = 0) : appendA Try.prog s t t2 .nilSlice y = some (.nilSlice, s) := by
  obtain ⟨elem, e2, i, z, size, u1, u2, u3, u4, u5, rfl, u6, u7⟩ := rowT_inv ht
  subst hm
  have h10 : Nat.beq 0 0 = true := rfl
  simp only [appendA, u1, u2, u3, u4, u5, hy, u6, u7, hF, ho, h10, Bool.and_self, Bool.not_true, Bool.false_eq_true, if_false, if_true]
theorem app_o0 (hm : m = 0) : appendA Try.prog s t t2 (.osl b 0 k n) y = some (.osl b 0 k n, s) := by
  obtain ⟨elem, e2, i, z, size, u1, u2, u3, u4, u5, rfl, u6, u7⟩ := rowT_inv ht
  subst hm
  have h10 : Nat.beq 0 0 = true := rfl
  have hz : Nat.beq (size + 1) (size + 1) = true := Nat.beq_refl _
  simp only [appendA, u1, u2, u3, u4, u5, hy, u6, u7, hF, ho, h10, hz, Bool.and_self, Bool.not_true, Bool.false_eq_true, if_false, if_true]
end
section
variable {t elem : TypeId} {z : Nat} (h1 : Try.prog.underlying t = some (.slice elem)) (h2 : sizeA Try.prog elem = some z)
include h1 h2
theorem sli_to {b n i : Nat} (h : i ≤ n) : (Qst.sli t (.osl b 0 n z) none (some (.int .i64 (Int.ofNat i))) none (.osl b 0 i z)).ok Try.prog := by
  simp only [Qst.ok, sliceA, h1, h2, boundA]
  simp [h, Nat.beq_refl]
theorem sli_from {b n i : Nat} (h : i ≤ n) : (Qst.sli t (.osl b 0 n z) (some (.int .i64 (Int.ofNat i))) none none (.osl b (i * z) (n - i) z)).ok Try.prog := by
  simp only [Qst.ok, sliceA, h1, h2, boundA]
  simp [h, Nat.beq_refl]
theorem idx_osl {b n i : Nat} (h : i < n) : (Qst.idx t (.osl b 0 n z) (.int .i64 (Int.ofNat i)) (.ptr b (i * z))).ok Try.prog := by
  simp only [Qst.ok, indexAddrA, h1, h2]
  simp [h]
end
/-! ### what a call gives back, wherever it lies -/
section
variable {f : FuncId} {args : List AV} {row cs : List AV} {b n z : Nat} {s1 : AS}
theorem put_osl (h : Sound Try.prog (.call f args (canS [] row 1 1)) ⟨.ret, [.osl b 0 n z], s1⟩) (hb : 1 ≤ b) (ho : s1.get b = some (.cells false cs)) (hcs : namess (fun _ => false) cs = true) (hrow : namess (fun _ => false) row = true) (ha : namess (fun b => Nat.blt b 1) args = true) {s : AS} {ro : Bool} {b0 : Nat} (h0 : s.get b0 = some (.cells ro row)) :
    Sound Try.prog (.call f (rens (fun _ => b0) args) s) ⟨.ret, [.osl s.nx 0 n z], s.push (.cells false cs)⟩ := by
  have hob : objAt s1 b = .cells false cs := by simp [objAt, ho]
  have := Sound.putR (bs0 := []) h noG (fun _ => b0) [b] s hrow ⟨ro, h0⟩ (by decide) trivial (fun b hb => by cases hb) (fun b hb => by cases hb) List.nodup_nil (by simp) (fun c hc => by
    simp only [List.mem_singleton] at hc
    subst hc
    exact ⟨hb, by rw [hob]; rfl, by rw [hob]; exact namess_sub (fun _ h => by cases h) hcs⟩) ha (by show pN 1 [b] b = true; simp [pN])
  have e3 : pR 1 [b] (fun _ => b0) s.nx b = s.nx := by
    unfold pR
    rw [if_neg (by omega)]
    simp
  have eC : (AObj.cells false cs).ren (pR 1 [b] (fun _ => b0) s.nx) = .cells false cs := by
    show AObj.cells false (rens _ cs) = _
    rw [rens_no hcs]
  simp only [List.map_nil, setL, List.map_cons, pushL, hob, eC, AV.ren, e3] at this
  exact this
theorem put_osl0 (h : Sound Try.prog (.call f args ⟨⟨[], 0, none, []⟩, 1⟩) ⟨.ret, [.osl b 0 n z], s1⟩) (hb : 1 ≤ b) (ho : s1.get b = some (.cells false cs)) (hcs : namess (fun _ => false) cs = true) (ha : namess (fun _ => false) args = true) (s : AS) :
    Sound Try.prog (.call f args s) ⟨.ret, [.osl s.nx 0 n z], s.push (.cells false cs)⟩ := by
  have hob : objAt s1 b = .cells false cs := by simp [objAt, ho]
  have := Sound.put (bs0 := []) h noG (fun b => b) [b] s trivial (fun b hb => by cases hb) List.nodup_nil (by simp) (fun c hc => by
    simp only [List.mem_singleton] at hc
    subst hc
    exact ⟨hb, by rw [hob]; rfl, by rw [hob]; exact namess_sub (fun _ h => by cases h) hcs⟩) (namess_sub (fun _ h => by cases h) ha) (by show pN 1 [b] b = true; simp [pN])
  have e3 : pR 1 [b] (fun b => b) s.nx b = s.nx := by
    unfold pR
    rw [if_neg (by omega)]
    simp
  have eC : (AObj.cells false cs).ren (pR 1 [b] (fun b => b) s.nx) = .cells false cs := by
    show AObj.cells false (rens _ cs) = _
    rw [rens_no hcs]
  rw [rens_no ha] at this
  simp only [List.map_nil, setL, List.map_cons, pushL, hob, eC, AV.ren, e3] at this
  exact this
theorem put_val0 {v : AV} (h : Sound Try.prog (.call f args ⟨⟨[], 0, none, []⟩, 1⟩) ⟨.ret, [v], s1⟩) (ha : namess (fun _ => false) args = true) (hv : v.names (fun _ => false) = true) (s : AS) : Sound Try.prog (.call f args s) ⟨.ret, [v], s⟩ := by
  have := Sound.put (bs0 := []) h noG (fun b => b) [] s trivial (fun b hb => by cases hb) List.nodup_nil List.nodup_nil (fun b hb => by cases hb) (namess_sub (fun _ h => by cases h) ha) (names_sub (fun _ h => by cases h) hv)
  rw [rens_no ha, show v.ren _ = v from by rw [ren_congr (p := fun _ => false) (π' := fun b => b) (fun _ h => by cases h) hv, ren_id]] at this
  exact this
end
end Go.Proofs.Ythooafgfpnedhaa.specsDo
namespace Go.Proofs.Ythooafgfpnedhaa.specsDo
open Go Go.Mini
/-! ### the document's rows of pairs: find, with, without -/
abbrev Pr : Type := Int × Int
def pc (p : Pr) : List AV := [.int .u64 p.1, .int .u64 p.2]
abbrev pr (l : List Pr) : List AV := rowsOf pc l
theorem pc_len (p : Pr) : (pc p).length = 2 := rfl
theorem pr_len (l : List Pr) : (pr l).length = l.length * 2 := rowsOf_len pc_len l
theorem pr_names (p : Nat → Bool) : ∀ l : List Pr, namess p (pr l) = true
  | [] => rfl
  | x :: l => by
    show namess p (AV.int .u64 x.1 :: AV.int .u64 x.2 :: rowsOf pc l) = true
    simp only [namess, AV.names, Bool.true_and]
    exact pr_names p l
theorem pr_one : ∀ l : List Pr, (pr l).all AV.one = true
  | [] => rfl
  | x :: l => by
    show (AV.int .u64 x.1 :: AV.int .u64 x.2 :: rowsOf pc l).all AV.one = true
    simp only [List.all_cons, pr_one l, Bool.and_true]
    rfl
theorem t38 : Try.prog.underlying 38 = some (.slice 87) := by kernel_rfl
theorem s87 : sizeA Try.prog 87 = some 2 := by kernel_rfl
theorem r38 : rowT Try.prog 38 38 2 = true := by kernel_rfl
/-- Where a key stands, or would. -/
def posL : List Pr → Int → Nat
  | [], _ => 0
  | p :: l, k => if p.1 < k then posL l k + 1 else 0
def hasL (l : List Pr) (k : Int) : Bool := match l[posL l k]? with
  | some p => p.1 == k
  | none => false
theorem posL_le : ∀ (l : List Pr) (k : Int), posL l k ≤ l.length
  | [], _ => Nat.le_refl _
  | p :: l, k => by
    show (if p.1 < k then posL l k + 1 else 0) ≤ l.length + 1
    split
    · have := posL_le l k
      omega
    · omega
theorem posL_lt : ∀ (l : List Pr) (k : Int) (i : Nat), i < posL l k → ∃ p, l[i]? = some p ∧ p.1 < k
  | [], _, i, h => absurd h (Nat.not_lt_zero _)
  | p :: l, k, i, h => by
    have h : i < (if p.1 < k then posL l k + 1 else 0) := h
    split at h
    · rename_i hp
      cases i with
      | zero => exact ⟨p, rfl, hp⟩
      | succ i => exact posL_lt l k i (by omega)
    · exact absurd h (Nat.not_lt_zero _)
theorem posL_at : ∀ (l : List Pr) (k : Int), posL l k < l.length → ∃ p, l[posL l k]? = some p ∧ ¬ p.1 < k
  | [], _, h => absurd h (Nat.not_lt_zero _)
  | p :: l, k, h => by
    have h : (if p.1 < k then posL l k + 1 else 0) < l.length + 1 := h
    show ∃ q, (p :: l)[if p.1 < k then posL l k + 1 else 0]? = some q ∧ _
    by_cases hp : p.1 < k
    · rw [if_pos hp] at h ⊢
      exact posL_at l k (by omega)
    · rw [if_neg hp]
      exact ⟨p, rfl, hp⟩
theorem ld_key {l : List Pr} {i : Nat} {p : Pr} (h : l[i]? = some p) (s : AS) {b : Nat} {ro : Bool} (hs : s.get b = some (.cells ro (pr l))) : (Qst.ld 22 s (.ptr b (i * 2 + 0)) (.int .u64 p.1)).ok Try.prog :=
  ld_rowCell (f := pc) (n := 2) (i := 0) pc_len a22 hs h rfl
theorem ld_elt {l : List Pr} {i : Nat} {p : Pr} (h : l[i]? = some p) (s : AS) {b : Nat} {ro : Bool} (hs : s.get b = some (.cells ro (pr l))) : (Qst.ld 22 s (.ptr b (i * 2 + 1)) (.int .u64 p.2)).ok Try.prog :=
  ld_rowCell (f := pc) (n := 2) (i := 1) pc_len a22 hs h rfl
theorem ln_osl38 (s : AS) (b n : Nat) : (Qst.ln 38 s (.osl b 0 n 2) (.int .i64 (Int.ofNat n))).ok Try.prog := by
  simp only [Qst.ok, lenA, t38]
  rfl
abbrev bs0 (l : List Pr) : List (Nat × AObj) := [(0, .cells true (pr l))]
theorem find_loop (l : List Pr) (hl : l.length ≤ 1000) (k : Int) : ∀ (m i : Nat), posL l k - i = m → i ≤ posL l k → SoundL Try.prog [] (.loop (loopAt Try.prog 31 0)) (TF (.osl 0 0 l.length 2) k i) (bs0 l) 1 1 (.exit 0) (TF (.osl 0 0 l.length 2) k (posL l k)) (bs0 l) := by
  intro m
  have hp := posL_le l k
  induction m with
  | zero =>
    intro i hm hi
    have : i = posL l k := by omega
    subst this
    by_cases hlt : posL l k < l.length
    · obtain ⟨p, h1, h2⟩ := posL_at l k hlt
      refine SoundL.stop (SoundL.plain (runX_sound mixed none_sound (fd_stop (.osl 0 0 l.length 2) .nilFunc .nilFunc .nilFunc .nilFunc 0 l.length (posL l k) 0 (posL l k * 2) 0 false k 0 p.1 0 0 0 0 0 0 0 0 0 .dead .dead .dead (pr l) []) ⟨ln_osl38 _ _ _, ltq _ _ true (by simpa using hlt), idx_osl t38 s87 hlt, ld_key h1 _ rfl, bq (decide_eq_false h2), trivial⟩) ?_) (by simp)
      unfold TF
      repeat (first | exact rfl | refine ⟨_, _, rfl, ?_, ?_⟩ | exact .inr ⟨rfl, rfl⟩ | exact .inl ⟨rfl, rfl⟩ | exact see_same _)
    · refine SoundL.stop (SoundL.plain (runX_sound mixed none_sound (fd_end (.osl 0 0 l.length 2) .nilFunc .nilFunc .nilFunc .nilFunc 0 l.length (posL l k) 0 0 0 false k 0 0 0 0 0 0 0 0 0 0 0 .dead .dead .dead (pr l) []) ⟨ln_osl38 _ _ _, ltq _ _ false (by simpa using hlt), trivial⟩) ?_) (by simp)
      unfold TF
      repeat (first | exact rfl | refine ⟨_, _, rfl, ?_, ?_⟩ | exact .inr ⟨rfl, rfl⟩ | exact .inl ⟨rfl, rfl⟩ | exact see_same _)
  | succ m ih =>
    intro i hm hi
    have hlt : i < posL l k := by omega
    obtain ⟨p, h1, h2⟩ := posL_lt l k i hlt
    refine SoundL.next (SoundL.plain (runX_sound mixed none_sound (fd_go (.osl 0 0 l.length 2) .nilFunc .nilFunc .nilFunc .nilFunc 0 l.length i 0 (i * 2) 0 false k 0 p.1 0 0 0 0 0 0 0 0 0 .dead .dead .dead (pr l) []) ⟨ln_osl38 _ _ _, ltq _ _ true (by simp; omega), idx_osl t38 s87 (by omega), ld_key h1 _ rfl, bq (decide_eq_true h2), wq _ rfl (by omega), trivial⟩) ?_) (ih (i + 1) (by omega) (by omega))
    unfold TF
    repeat (first | exact rfl | refine ⟨_, _, rfl, ?_, ?_⟩ | exact .inr ⟨rfl, rfl⟩ | exact .inl ⟨rfl, rfl⟩ | exact see_same _)
theorem put_val {f : FuncId} {args : List AV} {row : List AV} {v : AV} {s1 : AS} (h : Sound Try.prog (.call f args (canS [] row 1 1)) ⟨.ret, [v], s1⟩) (hrow : namess (fun _ => false) row = true) (ha : namess (fun b => Nat.blt b 1) args = true) (hv : v.names (fun _ => false) = true) {s : AS} {ro : Bool} {b0 : Nat} (h0 : s.get b0 = some (.cells ro row)) :
    Sound Try.prog (.call f (rens (fun _ => b0) args) s) ⟨.ret, [v], s⟩ := by
  have := Sound.putR (bs0 := []) h noG (fun _ => b0) [] s hrow ⟨ro, h0⟩ (by decide) trivial (fun b hb => by cases hb) (fun b hb => by cases hb) List.nodup_nil List.nodup_nil (fun b hb => by cases hb) ha (names_sub (fun _ h => by cases h) hv)
  rw [show v.ren _ = v from by rw [ren_congr (p := fun _ => false) (π' := fun b => b) (fun _ h => by cases h) hv, ren_id]] at this
  exact this
/-- A row of pairs as it lies in block b: nil, or all of the block. -/
def lv (l : List Pr) (b : Nat) : AV := if l = [] then .nilSlice else .osl b 0 l.length 2
theorem find_small {l : List Pr} (_ : l ≠ []) (hl : l.length ≤ 1000) (k : Int) : ∃ s1, Sound Try.prog (.call 31 [.osl 0 0 l.length 2, .int .u64 k] (canS [] (pr l) 1 1)) ⟨.ret, [.tuple [.int .i64 (Int.ofNat (posL l k)), .bool (hasL l k)]], s1⟩ := by
  have hp := posL_le l k
  have lp := find_loop l hl k _ 0 rfl (Nat.zero_le _) none none []
  have lp' : Sound Try.prog (.code (.loop (loopAt Try.prog 31 0)) [.osl 0 0 l.length 2, .int .u64 k, .tuple [], .tuple [], .int .i64 (Int.ofNat 0), .bool false, .int .i64 (Int.ofNat 0), .tuple [], .tuple [], .tuple [], .tuple [], .tuple [], .tuple [], .tuple [], .tuple [], .tuple [], .tuple [], .tuple [], .tuple [], .tuple [], .tuple [], .tuple [], .tuple [], .tuple [], .tuple [], .tuple [], .tuple [], .tuple [], .tuple [], .tuple [], .tuple [], .tuple [], .tuple [], .tuple [], .tuple [], .tuple []] (canS [] (pr l) 1 1)) ⟨.exit 0, TF (.osl 0 0 l.length 2) k (posL l k), canS [] (pr l) 1 1⟩ := by
    refine Sound.enter lp ?_
    unfold TF
    repeat (first | exact rfl | refine ⟨_, _, rfl, ?_, ?_⟩ | exact .inr ⟨rfl, rfl⟩ | exact .inl ⟨rfl, rfl⟩ | exact see_same _)
  by_cases hlt : posL l k < l.length
  · obtain ⟨p, h1, h2⟩ := posL_at l k hlt
    have hh : hasL l k = (p.1 == k) := by
      unfold hasL
      rw [h1]
    rw [hh]
    exact ⟨_, runX_sound mixed none_sound (fd_in .nilFunc .nilFunc .nilFunc .nilFunc .nilFunc 0 l.length (posL l k) 0 (posL l k * 2) 0 (p.1 == k) k 0 p.1 0 0 0 0 0 0 0 0 0 .dead .dead .dead (pr l) []) ⟨lp', ltq _ _ true (by simpa using hlt), idx_osl t38 s87 hlt, ld_key h1 _ rfl, bq rfl, trivial⟩⟩
  · have hh : hasL l k = false := by
      unfold hasL
      rw [List.getElem?_eq_none (by omega)]
    rw [hh]
    exact ⟨_, runX_sound mixed none_sound (fd_out .nilFunc .nilFunc .nilFunc .nilFunc .nilFunc 0 l.length (posL l k) 0 0 0 false k 0 0 0 0 0 0 0 0 0 0 0 .dead .dead .dead (pr l) []) ⟨lp', ltq _ _ false (by simpa using hlt), trivial⟩⟩
/-- find, wherever the row lies. -/
theorem findC {l : List Pr} (hl : l.length ≤ 1000) (k : Int) {s : AS} {b : Nat} (h : l ≠ [] → s.get b = some (.cells false (pr l))) : Sound Try.prog (.call 31 [lv l b, .int .u64 k] s) ⟨.ret, [.tuple [.int .i64 (Int.ofNat (posL l k)), .bool (hasL l k)]], s⟩ := by
  by_cases hne : l = []
  · subst hne
    exact put_val0 (runX_sound mixed none_sound (fd_nil .nilFunc .nilFunc .nilFunc .nilFunc .nilFunc 0 0 0 0 0 0 false k 0 0 0 0 0 0 0 0 0 0 0 .dead .dead .dead [] []) trivial) rfl rfl s
  · obtain ⟨s1, hs⟩ := find_small hne hl k
    have := put_val hs (pr_names _ l) rfl rfl (h hne)
    unfold lv
    rw [if_neg hne]
    exact this
theorem first_one {s : AS} {b : Nat} {ro : Bool} {c2 : Nat} {p : Pr} (h : s.get b = some (.cells ro (pc p))) : firstA s 2 1 (.slice b 0 1 c2) = some (pr [p]) := by
  simp only [firstA, readA, h]
  rfl
/-- with, wherever the row lies. -/
theorem withC {l : List Pr} (hl : l.length ≤ 1000) (p : Pr) {i : Nat} (hi : i ≤ l.length) {s : AS} {b : Nat} (h : l ≠ [] → s.get b = some (.cells false (pr l))) :
    Sound Try.prog (.call 32 [lv l b, .int .i64 (Int.ofNat i), .agg [.int .u64 p.1, .int .u64 p.2]] s) ⟨.ret, [.osl s.nx 0 (l.length + 1) 2], s.push (.cells false (pr (l.take i ++ p :: l.drop i)))⟩ := by
  by_cases hne : l = []
  · subst hne
    have : i = 0 := by simpa using hi
    subst this
    exact put_osl0 (runX_sound mixed none_sound (wi_0 .nilFunc .nilFunc .nilFunc .nilFunc .nilFunc 0 0 0 0 0 0 false p.1 p.2 0 0 0 0 0 0 0 0 0 0 .dead .dead .dead [] []) trivial) (by decide) rfl rfl rfl s
  · have hlen : 0 < l.length := List.length_pos_iff.2 hne
    have ev : lv l b = .osl b 0 l.length 2 := if_neg hne
    rw [ev]
    have fin : ∀ {b1 : Nat} {s1 : AS}, Sound Try.prog (.call 32 [.osl 0 0 l.length 2, .int .i64 (Int.ofNat i), .agg [.int .u64 p.1, .int .u64 p.2]] (canS [] (pr l) 1 1)) ⟨.ret, [.osl b1 0 (l.length + 1) 2], s1⟩ → 1 ≤ b1 → s1.get b1 = some (.cells false (pr (l.take i ++ p :: l.drop i))) →
        Sound Try.prog (.call 32 [.osl b 0 l.length 2, .int .i64 (Int.ofNat i), .agg [.int .u64 p.1, .int .u64 p.2]] s) ⟨.ret, [.osl s.nx 0 (l.length + 1) 2], s.push (.cells false (pr (l.take i ++ p :: l.drop i)))⟩ :=
      fun h1 h2 h3 => put_osl h1 h2 h3 (pr_names _ _) (pr_names _ _) rfl (h hne)
    have sp : pr (l.take i ++ p :: l.drop i) = pr (l.take i ++ [p]) ++ pr (l.drop i) := by
      show rowsOf pc _ = rowsOf pc _ ++ rowsOf pc _
      rw [← rowsOf_append, List.append_assoc]
      rfl
    have e0 : ∀ {s : AS}, s.get 0 = some (.cells true (pr l)) → firstA s 2 i (.osl 0 0 i 2) = some (pr (l.take i)) := fun h => first_take pc_len h hi
    have e1 : ∀ {s : AS}, s.get 0 = some (.cells true (pr l)) → firstA s 2 (l.length - i) (.osl 0 (i * 2) (l.length - i) 2) = some (pr (l.drop i)) := fun h => first_drop pc_len h hi
    have hd : (l.take i).length = i := by rw [List.length_take, Nat.min_eq_left hi]
    by_cases h0 : i = 0
    · subst h0
      refine fin (runX_sound mixed none_sound (wi_l .nilFunc .nilFunc .nilFunc .nilFunc .nilFunc 0 l.length 0 0 0 0 false p.1 p.2 0 0 0 0 0 0 0 0 0 0 .dead (.cells false (pr (p :: l))) .dead (pr l) []) ⟨sli_to t38 s87 hi, ?_, app_n0 r38 rfl (e0 rfl) rfl rfl, ?_, trivial⟩) (by decide) rfl
      · have := sli_from (b := 0) t38 s87 hi
        rw [Nat.zero_mul, Nat.sub_zero] at this
        exact this
      · have := app_ox (s := ⟨⟨[(3, AObj.cells false (pc p)), (2, AObj.cells false (pc p)), (1, AObj.cells false (pc p)), (0, AObj.cells true (pr l))], 4, none, []⟩, 4⟩) (b := 3) (R := pr [p]) r38 (y := .osl 0 0 l.length 2) rfl (by have := e1 (s := ⟨⟨[(3, AObj.cells false (pc p)), (2, AObj.cells false (pc p)), (1, AObj.cells false (pc p)), (0, AObj.cells true (pr l))], 4, none, []⟩, 4⟩) rfl; rw [Nat.zero_mul, Nat.sub_zero] at this; exact this) (pr_one _) rfl (k := 1) rfl rfl (by omega) (by omega)
        rw [Nat.add_comm 1] at this
        exact this
    · have app1 : ∀ {o2 o1 : AObj} , (Qst.app ⟨⟨[(2, o2), (1, o1), (0, AObj.cells true (pr l))], 3, none, []⟩, 3⟩ 38 38 .nilSlice (.osl 0 0 i 2) (.osl 3 0 i 2) ⟨⟨[(3, .cells false (pr (l.take i))), (2, o2), (1, o1), (0, AObj.cells true (pr l))], 4, none, []⟩, 4⟩).ok Try.prog := fun {_ _} => app_nx r38 rfl (e0 rfl) (pr_one _) h0 (by omega)
      have app2 : (Qst.app ⟨⟨[(3, .cells false (pr (l.take i))), (2, .cells false (pc p)), (1, .cells false (pc p)), (0, AObj.cells true (pr l))], 4, none, []⟩, 4⟩ 38 38 (.osl 3 0 i 2) (.slice 2 0 1 1) (.osl 4 0 (i + 1) 2) ⟨⟨[(4, .cells false (pr (l.take i) ++ pr [p])), (3, .dead), (2, .cells false (pc p)), (1, .cells false (pc p)), (0, AObj.cells true (pr l))], 5, none, [3]⟩, 5⟩).ok Try.prog :=
        app_ox r38 rfl (first_one rfl) rfl rfl (by rw [pr_len, hd]) (pr_one _) (by decide) (by omega)
      have t12 : pr (l.take i) ++ pr [p] = pr (l.take i ++ [p]) := (rowsOf_append _ _).symm
      have f1 := sli_from (b := 0) t38 s87 hi
      by_cases hlt : i < l.length
      · refine fin (runX_sound mixed none_sound (wi_m .nilFunc .nilFunc .nilFunc .nilFunc .nilFunc 0 l.length i (l.length - i) 0 (i * 2) false p.1 p.2 0 0 0 0 0 0 0 0 0 0 (.cells false (pr (l.take i))) (.cells false (pr (l.take i) ++ pr [p])) (.cells false (pr (l.take i ++ p :: l.drop i))) (pr l) []) ⟨sli_to t38 s87 hi, f1, app1, app2, ?_, trivial⟩) (by decide) rfl
        have := app_ox (s := ⟨⟨[(4, AObj.cells false (pr (l.take i) ++ pr [p])), (3, .dead), (2, AObj.cells false (pc p)), (1, AObj.cells false (pc p)), (0, AObj.cells true (pr l))], 5, none, [3]⟩, 5⟩) (b := 4) (R := pr (l.take i) ++ pr [p]) r38 (y := .osl 0 (i * 2) (l.length - i) 2) rfl (e1 rfl) (pr_one _) rfl (k := i + 1) (by rw [t12, pr_len, List.length_append, hd]; rfl) (by rw [t12]; exact pr_one _) (by omega) (by omega)
        rw [show i + 1 + (l.length - i) = l.length + 1 from by omega, t12, ← sp] at this
        rw [t12]
        exact this
      · have hie : i = l.length := by omega
        have hdr : l.drop i = [] := List.drop_eq_nil_of_le (by omega)
        rw [show l.length - i = 0 from by omega] at f1
        have e1' := @e1
        rw [show l.length - i = 0 from by omega] at e1'
        have key := runX_sound mixed none_sound (wi_e .nilFunc .nilFunc .nilFunc .nilFunc .nilFunc 0 l.length i 0 0 (i * 2) false p.1 p.2 0 0 0 0 0 0 0 0 0 0 (.cells false (pr (l.take i))) (.cells false (pr (l.take i) ++ pr [p])) .dead (pr l) []) ⟨sli_to t38 s87 hi, f1, app1, app2, app_o0 r38 rfl (e1' rfl) (pr_one _) rfl, trivial⟩
        rw [show i + 1 = l.length + 1 from by omega] at key
        refine fin key (by decide) ?_
        rw [sp, hdr, show pr ([] : List Pr) = [] from rfl, List.append_nil, ← t12]
        rfl
/-- without, wherever the row lies. -/
theorem withoutC {l : List Pr} (hl : l.length ≤ 1000) {i : Nat} (hi : i < l.length) {s : AS} {b : Nat} (h : l ≠ [] → s.get b = some (.cells false (pr l))) :
    (l.take i ++ l.drop (i + 1) ≠ [] ∧ Sound Try.prog (.call 34 [lv l b, .int .i64 (Int.ofNat i)] s) ⟨.ret, [.osl s.nx 0 (l.take i ++ l.drop (i + 1)).length 2], s.push (.cells false (pr (l.take i ++ l.drop (i + 1))))⟩) ∨
    (l.take i ++ l.drop (i + 1) = [] ∧ Sound Try.prog (.call 34 [lv l b, .int .i64 (Int.ofNat i)] s) ⟨.ret, [.nilSlice], s⟩) := by
  have hne : l ≠ [] := fun e => by subst e; simp at hi
  have ev : lv l b = .osl b 0 l.length 2 := if_neg hne
  rw [ev]
  have hd : (l.take i).length = i := by rw [List.length_take, Nat.min_eq_left (by omega)]
  have hd2 : (l.drop (i + 1)).length = l.length - (i + 1) := List.length_drop
  have e0 : ∀ {s : AS}, s.get 0 = some (.cells true (pr l)) → firstA s 2 i (.osl 0 0 i 2) = some (pr (l.take i)) := fun h => first_take pc_len h (by omega)
  have e1 : ∀ {s : AS}, s.get 0 = some (.cells true (pr l)) → firstA s 2 (l.length - (i + 1)) (.osl 0 ((i + 1) * 2) (l.length - (i + 1)) 2) = some (pr (l.drop (i + 1))) := fun h => first_drop pc_len h (by omega)
  have f0 : (Qst.sli 38 (.osl 0 0 l.length 2) none (some (.int .i64 (Int.ofNat i))) none (.osl 0 0 i 2)).ok Try.prog := sli_to t38 s87 (by omega)
  have f1 : (Qst.sli 38 (.osl 0 0 l.length 2) (some (.int .i64 (Int.ofNat (i + 1)))) none none (.osl 0 ((i + 1) * 2) (l.length - (i + 1)) 2)).ok Try.prog := sli_from t38 s87 (by omega)
  have w1 := wq (n := i + 1) (Int.ofNat (i + 1)) rfl (by omega)
  have sp : pr (l.take i ++ l.drop (i + 1)) = pr (l.take i) ++ pr (l.drop (i + 1)) := rowsOf_append _ _
  have fin : ∀ {b1 m : Nat} {s1 : AS}, l.take i ++ l.drop (i + 1) ≠ [] → m = (l.take i ++ l.drop (i + 1)).length → Sound Try.prog (.call 34 [.osl 0 0 l.length 2, .int .i64 (Int.ofNat i)] (canS [] (pr l) 1 1)) ⟨.ret, [.osl b1 0 m 2], s1⟩ → 1 ≤ b1 → s1.get b1 = some (.cells false (pr (l.take i ++ l.drop (i + 1)))) →
      Sound Try.prog (.call 34 [.osl b 0 l.length 2, .int .i64 (Int.ofNat i)] s) ⟨.ret, [.osl s.nx 0 (l.take i ++ l.drop (i + 1)).length 2], s.push (.cells false (pr (l.take i ++ l.drop (i + 1))))⟩ := fun hn hm h1 h2 h3 => by
    rw [← hm]
    exact put_osl h1 h2 h3 (pr_names _ _) (pr_names _ _) rfl (h hne)
  by_cases h0 : i = 0
  · subst h0
    rw [show (0 + 1) = 1 from rfl] at *
    by_cases hn : l.drop 1 = []
    · have hn' : l.take 0 ++ l.drop 1 = [] := by rw [hn]; rfl
      have hz : l.length - 1 = 0 := by rw [← hd2, hn]; rfl
      rw [hz] at f1
      have e1' := @e1
      rw [hz] at e1'
      exact .inr ⟨hn', put_val (runX_sound mixed none_sound (wo_0 .nilFunc .nilFunc .nilFunc .nilFunc .nilFunc 0 l.length 0 0 0 (1 * 2) false 0 0 0 0 0 0 0 0 0 0 0 0 .dead .dead .dead (pr l) []) ⟨f0, w1, f1, app_n0 r38 rfl (e0 rfl) rfl rfl, app_n0 r38 rfl (e1' rfl) (pr_one _) rfl, trivial⟩) (pr_names _ _) rfl rfl (h hne)⟩
    · have hz : l.length - 1 ≠ 0 := fun e => hn (List.eq_nil_of_length_eq_zero (by rw [hd2, e]))
      refine .inl ⟨by simpa using hn, fin (by simpa using hn) (by simp) (runX_sound mixed none_sound (wo_l .nilFunc .nilFunc .nilFunc .nilFunc .nilFunc 0 l.length 0 (l.length - 1) 0 (1 * 2) false 0 0 0 0 0 0 0 0 0 0 0 0 (.cells false (pr (l.drop 1))) .dead .dead (pr l) []) ⟨f0, w1, f1, app_n0 r38 rfl (e0 rfl) rfl rfl, app_nx r38 rfl (e1 rfl) (pr_one _) hz (by omega), trivial⟩) (by decide) rfl⟩
  · have hnn : l.take i ++ l.drop (i + 1) ≠ [] := fun e => h0 (by
      have := congrArg List.length e
      rw [List.length_append, hd] at this
      simp at this
      omega)
    have hlen : (l.take i ++ l.drop (i + 1)).length = i + (l.length - (i + 1)) := by rw [List.length_append, hd, hd2]
    have app1 : (Qst.app ⟨⟨[(0, AObj.cells true (pr l))], 1, none, []⟩, 1⟩ 38 38 .nilSlice (.osl 0 0 i 2) (.osl 1 0 i 2) ⟨⟨[(1, .cells false (pr (l.take i))), (0, AObj.cells true (pr l))], 2, none, []⟩, 2⟩).ok Try.prog := app_nx r38 rfl (e0 rfl) (pr_one _) h0 (by omega)
    by_cases hn : l.drop (i + 1) = []
    · have hz : l.length - (i + 1) = 0 := by rw [← hd2, hn]; rfl
      rw [hz] at f1
      have e1' := @e1
      rw [hz] at e1'
      refine .inl ⟨hnn, fin hnn (by rw [hlen, hz]; rfl) (runX_sound mixed none_sound (wo_e .nilFunc .nilFunc .nilFunc .nilFunc .nilFunc 0 l.length i 0 0 ((i + 1) * 2) false 0 0 0 0 0 0 0 0 0 0 0 0 (.cells false (pr (l.take i))) .dead .dead (pr l) []) ⟨f0, w1, f1, app1, app_o0 r38 rfl (e1' rfl) (pr_one _) rfl, trivial⟩) (by decide) ?_⟩
      rw [hn, List.append_nil]
      rfl
    · have hz : l.length - (i + 1) ≠ 0 := fun e => hn (List.eq_nil_of_length_eq_zero (by rw [hd2, e]))
      refine .inl ⟨hnn, fin hnn hlen.symm (runX_sound mixed none_sound (wo_m .nilFunc .nilFunc .nilFunc .nilFunc .nilFunc 0 l.length i (l.length - (i + 1)) 0 ((i + 1) * 2) false 0 0 0 0 0 0 0 0 0 0 0 0 (.cells false (pr (l.take i))) (.cells false (pr (l.take i ++ l.drop (i + 1)))) .dead (pr l) []) ⟨f0, w1, f1, app1, ?_, trivial⟩) (by decide) rfl⟩
      rw [sp]
      exact app_ox r38 rfl (e1 rfl) (pr_one _) rfl (by rw [pr_len, hd]) (pr_one _) hz (by omega)
end Go.Proofs.Ythooafgfpnedhaa.specsDo
