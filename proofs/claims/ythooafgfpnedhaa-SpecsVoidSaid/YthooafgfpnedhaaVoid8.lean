/- The law SpecsVoid returns true for every input, and leaves its argument as it was. Conditions: those that each theorem names, and no others. -/
import Derived.Test.YthooafgfpnedhaaVoid7
import Derived.Test.YthooafgfpnedhaaRows
import Derived.LaidByText
namespace Go.Proofs.Ythooafgfpnedhaa.specsVoid
open Go Go.Mini Go.Proofs
/-! ### SpecsVoid is true, whatever the op -/
theorem mapOk1 {k v : Int} (hk : (Lit.int .u64 k).wf = true) (hv : (Lit.int .u64 v).wf = true) : MapOk [(k, v)] [0] 1 where
  keys := by simp
  born := by simp
  lt b hb := by have : b = 0 := by simpa using hb
                omega
  wf x hx := by
    have : x = (k, v) := by simpa using hx
    subst this
    exact ⟨hk, hv⟩
  len := by show 1 ≤ 1000000; decide
theorem keysOf1 (k v : Int) : (keysOfM [(k, v)]).map uI = [.int .u64 k] := by
  show ((([k] : List Int).mergeSort fun x y => decide (x ≤ y)).map uI) = _
  rw [List.mergeSort_singleton]
  rfl
theorem sorted_one {s : AS} {bx bm : Nat} {k v : Int} {n : Nat} (hk : (Lit.int .u64 k).wf = true) (hv : (Lit.int .u64 v).wf = true) (hx : s.get bx = some (.cells false [.map bm])) (hm : s.get bm = some (.map [(.int .u64 k, .int .u64 v)] [0] 1)) (hn : s.nx = n) :
    Sound Try.prog (.call 28 [.func (.func 55) [] [.ptr bx 0]] s) ⟨.ret, [.osl n 0 1 1], (s.push oE).set s.nx (.cells false [.int .u64 k])⟩ := by
  have h := sorted_some (M := [(k, v)]) (mapOk1 hk hv) hx hm (by simp) sortsU1
  rw [keysOf1, hn] at h
  rw [hn]
  exact h
theorem neN {m c : Nat} (h : m ≠ c) : (Qst.val (some (AV.bool (Int.ofNat m == Int.ofNat c))) (AV.bool false)).ok Try.prog := by
  have : (Int.ofNat m == Int.ofNat c) = false := by simp; omega
  simp only [Qst.ok, this]
theorem wrapS {n : Nat} (h : n < 256) : (Qst.val (some (AV.int .i64 (IntKind.i64.wrap (Int.ofNat n)))) (AV.int .i64 (Int.ofNat n))).ok Try.prog := by
  show some (AV.int .i64 (IntKind.i64.wrap (Int.ofNat n))) = _
  rw [i64_wrapS (by simp only [Int.ofNat_eq_natCast]; omega) (by simp only [Int.ofNat_eq_natCast]; omega)]
theorem void_main {op : Nat} {k v : Int} (ho : op < 256) (hk : (Lit.int .u64 k).wf = true) : ∃ e s1, Sound Try.prog (.call 3 [.agg [.int .u8 (Int.ofNat op), .int .u64 k, .int .u64 v]] ⟨⟨[], 0, none, []⟩, 0⟩) ⟨e, [.bool true], s1⟩ := by
  have c : op = 0 ∨ op = 1 ∨ op = 2 ∨ op = 3 ∨ op = 4 ∨ op = 5 ∨ op = 6 ∨ op = 7 ∨ 8 ≤ op := by omega
  rcases c with rfl | rfl | rfl | rfl | rfl | rfl | rfl | rfl | h8
  · exact ⟨_, _, runX_sound mixed none_sound (v0 k v) ⟨sorted_one hk (by decide) rfl rfl rfl, by simp [Qst.ok], livC _, trivial⟩⟩
  · exact ⟨_, _, runX_sound mixed none_sound (v1 k v) ⟨sorted_nil (ro := false) rfl, livC _, trivial⟩⟩
  · exact ⟨_, _, runX_sound mixed none_sound (v2 k v) ⟨sorted_nil (ro := false) rfl, livC _, trivial⟩⟩
  · exact ⟨_, _, runX_sound mixed none_sound (v3 k v) ⟨sorted_nil (ro := false) rfl, by simp [Qst.ok], livC _, trivial⟩⟩
  · exact ⟨_, _, runX_sound mixed none_sound (v4 k v) ⟨sorted_nil (ro := false) rfl, livC _, trivial⟩⟩
  · exact ⟨_, _, runX_sound mixed none_sound (v5 k v) ⟨sorted_nil (ro := false) rfl, livC _, trivial⟩⟩
  · exact ⟨_, _, runX_sound mixed none_sound (v6 k v) ⟨sorted_nil (ro := false) rfl, livC _, trivial⟩⟩
  · exact ⟨_, _, runX_sound mixed none_sound (v7 k v) ⟨sorted_nil (ro := false) rfl, livC _, trivial⟩⟩
  · obtain ⟨m, rfl⟩ : ∃ m, op = m + 8 := ⟨op - 8, by omega⟩
    refine ⟨_, _, runX_sound mixed none_sound (v8 (m + 8) k v) ⟨?_, ?_, ?_, wrapS ho, neN (by omega), neN (by omega), neN (by omega), neN (by omega), neN (by omega), neN (by omega), neN (by omega), neN (by omega), sorted_nil (ro := false) rfl, livC _, trivial⟩⟩
    · show lookupA Try.prog _ 76 (.map 1) (.int .u8 (Int.ofNat (m + 8))) true = some (.tuple [.nilFunc, .bool false]); kernel_rfl
    · show lookupA Try.prog _ 76 (.map 9) (.int .u8 (Int.ofNat (m + 8))) true = some (.tuple [.nilFunc, .bool false]); kernel_rfl
    · show lookupA Try.prog _ 76 (.map 17) (.int .u8 (Int.ofNat (m + 8))) true = some (.tuple [.nilFunc, .bool false]); kernel_rfl
def vpks : List Pk := [⟨true, [.int .u8, .int .u64, .int .u64]⟩]
theorem vmain (xs : List (Bool × List SD)) (h : Fits xs vpks) : ∃ e s1, Sound Try.prog (.call 3 (absArgs xs (startS Try.prog [])).1 (absArgs xs (startS Try.prog [])).2) ⟨e, [.bool true], s1⟩ := by
  match xs, h with
  | [(b1, [u1, u2, u3])], ⟨g1, ⟨k1, k2, k3, _⟩, _⟩ =>
    simp only at g1 k1 k2 k3
    subst g1
    have e0 : startS Try.prog [] = ⟨⟨[], 0, none, []⟩, 0⟩ := by
      show (⟨⟨[], 0, none, []⟩, Try.prog.globals.size⟩ : AS) = _
      rw [noG]
    rw [e0]
    cases u1 <;> simp only [Ty] at k1
    cases u2 <;> simp only [Ty] at k2
    cases u3 <;> simp only [Ty] at k3
    obtain ⟨rfl, w1⟩ := k1
    obtain ⟨rfl, w2⟩ := k2
    obtain ⟨rfl, w3⟩ := k3
    rename_i m1 m2 m3
    have b1 := bounds_u8 w1
    obtain ⟨op, rfl⟩ : ∃ t : Nat, m1 = Int.ofNat t := ⟨m1.toNat, by simp only [Int.ofNat_eq_natCast]; omega⟩
    have ho : op < 256 := by
      have := b1.2
      simp only [Int.ofNat_eq_natCast] at this
      omega
    exact void_main ho w2
set_option maxRecDepth 100000 in
theorem contract (H : Type) (enc : TypeId × Value → H) (W : World) (base : Nat) (args : Array Value) (ds gs : List (DataW H)) (before : List MemPlace)
    (hval : ∀ (j : Nat) t v, Try.f3.params[j]? = some t → args[j]? = some v → Value.okWide Try.prog W .any base t v)
    (hW : DataW.Whole enc Try.prog Try.f3.params.toList Rows.specsVoidSpec.vars false W args.toList ds gs before) (hL : laidMetH Try.prog Rows.specsVoidRow.laid W) (hSh : W.ShapedOpen Try.prog) :
    Calls Try.prog 3 args W fun e W' => ∃ v, e = .returned v ∧ Rows.specsVoidSpec.post enc Try.prog Try.f3 false true false false W args v W' :=
  law (G := []) (pks := vpks) (tb := 4) (by kernel_rfl) (by kernel_rfl) (by kernel_rfl) (by kernel_rfl) (by kernel_rfl) rfl (by kernel_rfl) (by kernel_rfl) (Nat.le_of_ble_eq_true (by kernel_rfl))
    (fun ds hl => by
      match ds, hl with
      | [d1], _ => rfl) vmain hval hW hL hSh

theorem own : ownKnob Try.prog.godebug = none := by kernel_rfl
noncomputable def laidWorld (os : Os) : World := World.holding Try.prog os ⟨#[], #[], []⟩
def wargs : Array Value := #[.agg #[.int .u8 0, .int .u64 0, .int .u64 0]]
theorem laid_met (os : Os) : laidMet Try.prog Rows.specsVoidRow.laid ((laidWorld os).forCall (fun _ _ => 0) ⟨#[], wargs, []⟩).memory :=
  laidMet_of_run' 8 (by kernel_rfl) (by kernel_rfl)
theorem reads (os : Os) {H : Type} (enc : TypeId × Value → H) : ∃ places, DataW.whole enc Try.prog ((laidWorld os).forCall (fun _ _ => 0) ⟨#[], wargs, []⟩).memory Try.f3.params.toList Rows.specsVoidSpec.vars false wargs.toList 8 = some ([.agg [.lit (.int .u8 0), .lit (.int .u64 0), .lit (.int .u64 0)]], [], places) :=
  ⟨[], by kernel_rfl⟩

set_option maxRecDepth 100000 in
theorem lifted (os : Os) (started : os.Started) (H : Type) (enc : TypeId × Value → H) (F : Stop.Interp) :
    ReturnsInHanded {} Try.checked os 3 .any ((OpenSpec.ofChange Rows.specsVoidSpec).preRow enc Try.prog Try.f3 Rows.specsVoidRow.domain false Rows.specsVoidRow.laid) (((OpenSpec.ofChange Rows.specsVoidSpec).at F).post enc Try.prog Try.f3 false true false false) := by
  obtain ⟨places, hx⟩ := reads os enc
  refine returnsInHanded_of_row (C := Try.checked) (s := OpenSpec.ofChange Rows.specsVoidSpec) own started (by kernel_rfl) Try.func3
    (witness_row_at (enc := enc) (C := Try.checked) false (laidWorld os) wargs rfl (by kernel_rfl) (by kernel_rfl) (by kernel_rfl)
      (OpenSpec.preRow_of_cond 8 hx (by kernel_rfl) (fun k hk => by cases hk) (by kernel_rfl) (laid_met os))) ?_
  intro W base args ds gs before hval hW _ _ _ hL hSh _
  exact contract H enc W base args ds gs before hval hW hL hSh

theorem said : Rows.SpecsVoidSaid :=
  OpenClaim.holds_of_cond 3 Try.f3 rfl rfl rfl rfl rfl rfl rfl ⟨rfl, rfl, rfl, rfl, rfl⟩ rfl rfl rfl rfl rfl (by kernel_rfl) Try.func3 (by kernel_rfl)
    (of_decide_eq_true (by kernel_rfl)) (by unfold Func.isWrapper; first | (rw [if_pos (by decide +kernel)]; kernel_rfl) | (rw [if_neg (by decide +kernel)]; exact ⟨rfl, rfl⟩))
    (fun os started H enc _ F => by rw [OpenClaim.pre_eq_preRow]; exact lifted os started H enc F)
end Go.Proofs.Ythooafgfpnedhaa.specsVoid
