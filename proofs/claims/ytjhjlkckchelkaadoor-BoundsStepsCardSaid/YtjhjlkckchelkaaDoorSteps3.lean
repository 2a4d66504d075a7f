/- Proved: the card of BoundsSteps: whatever the kind and the two numbers, the law answers true and its input reads as it did; the table words.fields holds what the text of the program lays. -/
import Derived.Test.YtjhjlkckchelkaaDoorSteps2
import Derived.Test.YtjhjlkckchelkaaDoorCards
import Derived.Test.YtjhjlkckchelkaaDoorTie
namespace Go.Proofs.YtjhjlkckchelkaaDoor.boundsSteps
open Go.Mini

def qOf (r : Option (Res × List Go.Mini.Ask)) : Option (List Go.Mini.Ask) := match r with
  | some (r, q) => if isT (some r) then some q else none
  | none => none
theorem qOf_sound {f : Nat} {args : List AV} {n : Nat} {s : AS} {ds : List Dec} {q : List Go.Mini.Ask} (h : qOf (callD Tryd.prog hk n f args s ds) = some q) (hq : Asks q) : ∃ e s1, Sound Tryd.prog (.call f args s) ⟨e, [.bool true], s1⟩ := by
  unfold qOf at h
  split at h
  case h_2 => cases h
  rename_i r q' hr
  split at h
  case isFalse => cases h
  rename_i ht
  simp only [Option.some.injEq] at h
  subst h
  have hs := callD_sound mixed hk_sound hr hq
  unfold isT at ht
  split at ht
  · rename_i e s1 he
    simp only [Option.some.injEq] at he
    subst he
    exact ⟨e, s1, hs⟩
  · cases ht

theorem cl_bd (x : Int) : 0 ≤ clampI x ∧ clampI x ≤ 1048576 := by
  unfold clampI
  by_cases h1 : 0 > x
  · simp [h1]
  · by_cases h2 : 1048576 < x
    · simp [h1, h2]
    · simp only [h1, h2, if_false]
      omega
theorem wrap_small {n : Int} (h1 : 0 ≤ n) (h2 : n < 9223372036854775808) : IntKind.i64.wrap n = n := by
  unfold IntKind.wrap
  simp [IntKind.signed, IntKind.bits]
  omega
def w (n : Int) : Int := IntKind.i64.wrap n
theorem w_def (n : Int) : IntKind.i64.wrap n = w n := rfl
theorem w_small {n : Int} (h1 : 0 ≤ n) (h2 : n < 9223372036854775808) : w n = n := wrap_small h1 h2

theorem k3 (x y : Int) : ∃ e s1, Sound Tryd.prog (.call 4 [.int .u8 (Int.ofNat 3), .int .i64 x, .int .i64 y] (startS Tryd.prog G)) ⟨e, [.bool true], s1⟩ := by
  have h : qOf (callD Tryd.prog hk 400 4 [.int .u8 (Int.ofNat 3), .int .i64 x, .int .i64 y] (startS Tryd.prog G) [⟨1, 10, true⟩]) =
    some [⟨w (200 + w (w (30 * clampI y) + w (10 * w (1000 + w (10 * clampI y))))) == w (w (200 + w (30 * clampI y)) + w (10 * w (1000 + w (10 * clampI y)))), true⟩] := by kernel_rfl
  refine qOf_sound h (fun a ha => ?_)
  simp only [List.mem_singleton] at ha
  subst ha
  have := cl_bd y
  simp only [beq_iff_eq]
  rw [w_small (n := 10 * clampI y) (by omega) (by omega), w_small (n := 30 * clampI y) (by omega) (by omega), w_small (n := 1000 + 10 * clampI y) (by omega) (by omega), w_small (n := 10 * (1000 + 10 * clampI y)) (by omega) (by omega), w_small (n := 200 + 30 * clampI y) (by omega) (by omega),
    w_small (n := 30 * clampI y + 10 * (1000 + 10 * clampI y)) (by omega) (by omega)]
  exact congrArg w (by omega)

theorem k4 (x y : Int) : ∃ e s1, Sound Tryd.prog (.call 4 [.int .u8 (Int.ofNat 4), .int .i64 x, .int .i64 y] (startS Tryd.prog G)) ⟨e, [.bool true], s1⟩ := by
  have h : qOf (callD Tryd.prog hk 400 4 [.int .u8 (Int.ofNat 4), .int .i64 x, .int .i64 y] (startS Tryd.prog G) [⟨1, 10, true⟩]) =
    some [⟨w (150 + w (8 * clampI x)) == w (150 + w (8 * clampI x)), true⟩] := by kernel_rfl
  refine qOf_sound h (fun a ha => ?_)
  simp only [List.mem_singleton] at ha
  subst ha
  simp

theorem k5 (x y : Int) : ∃ e s1, Sound Tryd.prog (.call 4 [.int .u8 (Int.ofNat 5), .int .i64 x, .int .i64 y] (startS Tryd.prog G)) ⟨e, [.bool true], s1⟩ := by
  have h : qOf (callD Tryd.prog hk 400 4 [.int .u8 (Int.ofNat 5), .int .i64 x, .int .i64 y] (startS Tryd.prog G) [⟨1, 10, true⟩]) =
    some [⟨w (60 + w (10 * w (1000 + w (10 * clampI y)))) == w (60 + w (10 * w (1000 + w (10 * clampI y)))), true⟩] := by kernel_rfl
  refine qOf_sound h (fun a ha => ?_)
  simp only [List.mem_singleton] at ha
  subst ha
  simp

theorem k6 (x y : Int) : ∃ e s1, Sound Tryd.prog (.call 4 [.int .u8 (Int.ofNat 6), .int .i64 x, .int .i64 y] (startS Tryd.prog G)) ⟨e, [.bool true], s1⟩ := by
  have h : qOf (callD Tryd.prog hk 400 4 [.int .u8 (Int.ofNat 6), .int .i64 x, .int .i64 y] (startS Tryd.prog G) [⟨1, 10, true⟩]) =
    some [⟨w (300 + w (w (w (30 * clampI y) + w (1700 * w (clampI x + 1))) + w (10 * w (1000 + w (10 * clampI y))))) ==
      w (w (w (300 + w (30 * clampI y)) + w (w (clampI x + 1) * 1700)) + w (10 * w (1000 + w (10 * clampI y)))), true⟩] := by kernel_rfl
  refine qOf_sound h (fun a ha => ?_)
  simp only [List.mem_singleton] at ha
  subst ha
  have := cl_bd y
  have := cl_bd x
  simp only [beq_iff_eq]
  rw [w_small (n := 10 * clampI y) (by omega) (by omega), w_small (n := 30 * clampI y) (by omega) (by omega), w_small (n := 1000 + 10 * clampI y) (by omega) (by omega), w_small (n := 10 * (1000 + 10 * clampI y)) (by omega) (by omega), w_small (n := clampI x + 1) (by omega) (by omega),
    w_small (n := 300 + 30 * clampI y) (by omega) (by omega), w_small (n := 1700 * (clampI x + 1)) (by omega) (by omega), w_small (n := (clampI x + 1) * 1700) (by omega) (by omega), w_small (n := 30 * clampI y + 1700 * (clampI x + 1)) (by omega) (by omega),
    w_small (n := 300 + 30 * clampI y + (clampI x + 1) * 1700) (by omega) (by omega), w_small (n := 30 * clampI y + 1700 * (clampI x + 1) + 10 * (1000 + 10 * clampI y)) (by omega) (by omega)]
  exact congrArg w (by omega)

def pks : List Pk := [⟨false, [.int .u8]⟩, ⟨false, [.int .i64]⟩, ⟨false, [.int .i64]⟩]
theorem main_ (xs : List (Bool × List SD)) (h : Fits xs pks) : ∃ e s1, Sound Tryd.prog (.call 4 (absArgs xs (startS Tryd.prog G)).1 (absArgs xs (startS Tryd.prog G)).2) ⟨e, [.bool true], s1⟩ := by
  obtain ⟨k, x, y, rfl, hk⟩ : ∃ k x y, xs = [(false, [.i .u8 k]), (false, [.i .i64 x]), (false, [.i .i64 y])] ∧ (Lit.int .u8 k).wf = true := by
    match xs, h with
    | [(a, [s1]), (b, [s2]), (c, [s3])], ⟨h1, ⟨h2, _⟩, h3, ⟨h4, _⟩, h5, ⟨h6, _⟩, _⟩ =>
      simp only at h1 h2 h3 h4 h5 h6
      subst h1 h3 h5
      cases s1 <;> simp only [Ty] at h2
      cases s2 <;> simp only [Ty] at h4
      cases s3 <;> simp only [Ty] at h6
      obtain ⟨rfl, hw⟩ := h2
      obtain ⟨rfl, _⟩ := h4
      obtain ⟨rfl, _⟩ := h6
      exact ⟨_, _, _, rfl, hw⟩
  have hb := bounds_u8 hk
  show ∃ e s1, Sound Tryd.prog (.call 4 [.int .u8 k, .int .i64 x, .int .i64 y] (startS Tryd.prog G)) ⟨e, [.bool true], s1⟩
  obtain ⟨n, rfl⟩ : ∃ n : Nat, k = Int.ofNat n := ⟨k.toNat, by simp; omega⟩
  have hn : n < 256 := by simp at hb; omega
  have he := easy x y hn
  unfold one at he
  rw [Bool.or_eq_true] at he
  rcases he with he | he
  · simp only [hard, Bool.and_eq_true] at he
    have h1 := Nat.le_of_ble_eq_true he.1
    have h2 := Nat.le_of_ble_eq_true he.2
    obtain rfl | rfl | rfl | rfl : n = 3 ∨ n = 4 ∨ n = 5 ∨ n = 6 := by omega
    · exact k3 x y
    · exact k4 x y
    · exact k5 x y
    · exact k6 x y
  · exact isT_sound he

set_option maxRecDepth 100000 in
theorem contract (H : Type) (enc : TypeId × Value → H) (W : World) (base : Nat) (args : Array Value) (ds gs : List (DataW H)) (before : List MemPlace)
    (hval : ∀ (j : Nat) t v, Tryd.f4.params[j]? = some t → args[j]? = some v → Value.okWide Tryd.prog W .any base t v)
    (hW : DataW.Whole enc Tryd.prog Tryd.f4.params.toList Rows.boundsStepsSpec.vars false W args.toList ds gs before) (hL : laidMetH Tryd.prog Rows.boundsStepsRow.laid W) (hSh : W.ShapedOpen Tryd.prog) :
    Calls Tryd.prog 4 args W fun e W' => ∃ v, e = .returned v ∧ Rows.boundsStepsSpec.post enc Tryd.prog Tryd.f4 false true false false W args v W' :=
  law (G := G) (pks := pks) (tb := 4) (by kernel_rfl) (by kernel_rfl) (by kernel_rfl) (by kernel_rfl) (by kernel_rfl) rfl (by kernel_rfl) (by kernel_rfl) (Nat.le_of_ble_eq_true (by kernel_rfl))
    (fun ds hl => by
      match ds, hl with
      | [d1, d2, d3], _ => rfl) main_ hval hW hL hSh

theorem own : ownKnob Tryd.prog.godebug = none := by kernel_rfl
noncomputable def laidWorld (os : Os) : World :=
  { World.holding Tryd.prog os ⟨#[], #[], []⟩ with heap := (World.holding Tryd.prog os ⟨#[], #[], []⟩).heap.modify 0 fun
      | .cells _ t frozen => .cells ([0,16,16,32,16,48,0,3,3,32,0,3,3,3,6,3,16,48,0,32,32,1].map (Value.int .u64)).toArray t frozen
      | o => o }
theorem laid_met (os : Os) : laidMet Tryd.prog Rows.boundsStepsRow.laid ((laidWorld os).forCall (fun _ _ => 0) ⟨#[], #[.int .u8 0, .int .i64 0, .int .i64 0], []⟩).memory :=
  laidMet_of_run' 8 (by kernel_rfl) (by kernel_rfl)
theorem reads (os : Os) {H : Type} (enc : TypeId × Value → H) : ∃ places, DataW.whole enc Tryd.prog ((laidWorld os).forCall (fun _ _ => 0) ⟨#[], #[.int .u8 0, .int .i64 0, .int .i64 0], []⟩).memory Tryd.f4.params.toList Rows.boundsStepsSpec.vars false #[Value.int .u8 0, .int .i64 0, .int .i64 0].toList 8 = some ([.lit (.int .u8 0), .lit (.int .i64 0), .lit (.int .i64 0)], [], places) :=
  ⟨[], by kernel_rfl⟩

set_option maxRecDepth 100000 in
theorem lifted (os : Os) (started : os.Started) (H : Type) (enc : TypeId × Value → H) (F : Stop.Interp) :
    ReturnsInHanded {} Tryd.checked os 4 .any ((OpenSpec.ofChange Rows.boundsStepsSpec).preRow enc Tryd.prog Tryd.f4 Rows.boundsStepsRow.domain false Rows.boundsStepsRow.laid) (((OpenSpec.ofChange Rows.boundsStepsSpec).at F).post enc Tryd.prog Tryd.f4 false true false false) := by
  obtain ⟨places, hx⟩ := reads os enc
  refine returnsInHanded_of_row (C := Tryd.checked) (s := OpenSpec.ofChange Rows.boundsStepsSpec) own started (by kernel_rfl) Tryd.func4
    (witness_row_at (enc := enc) (C := Tryd.checked) false (laidWorld os) #[.int .u8 0, .int .i64 0, .int .i64 0] rfl (by kernel_rfl) (by kernel_rfl) (by kernel_rfl)
      (OpenSpec.preRow_of_cond 8 hx (by kernel_rfl) (fun k hk => by cases hk) (by kernel_rfl) (laid_met os))) ?_
  intro W base args ds gs before hval hW _ _ _ hL hSh _
  exact contract H enc W base args ds gs before hval hW hL hSh

theorem said : Rows.BoundsStepsSaid :=
  OpenClaim.holds_of_cond 4 Tryd.f4 rfl rfl rfl rfl rfl rfl rfl ⟨rfl, rfl, rfl, rfl, rfl⟩ rfl rfl rfl rfl rfl (by kernel_rfl) Tryd.func4 (by kernel_rfl)
    (of_decide_eq_true (by kernel_rfl)) (by unfold Func.isWrapper; first | (rw [if_pos (by decide +kernel)]; kernel_rfl) | (rw [if_neg (by decide +kernel)]; exact ⟨rfl, rfl⟩))
    (fun os started H enc _ F => by rw [OpenClaim.pre_eq_preRow]; exact lifted os started H enc F)

theorem plain (f : FuncId) (fn : Func) (hf : Tryd.pinned.checked.prog.funcNamed "ragpicker/ragpickerlaw35.BoundsSteps" = some f) (hfn : Tryd.pinned.checked.prog.funcs[f]? = some fn) :
    false = Tryd.pinned.checked.prog.looks [] ∧ ∀ (j : Nat) t, fn.params[j]? = some t → Tryd.pinned.checked.prog.wantsStandIn t = false := by
  obtain rfl : f = 4 := Option.some.inj ((show Tryd.prog.funcNamed "ragpicker/ragpickerlaw35.BoundsSteps" = some 4 by kernel_rfl).symm.trans hf) |>.symm
  obtain rfl : fn = Tryd.f4 := (Option.some.inj (Tryd.func4.symm.trans hfn)).symm
  refine ⟨by kernel_rfl, fun j t ht => ?_⟩
  have h : (Tryd.f4.params.toList.all fun t => !Tryd.prog.wantsStandIn t) = true := by kernel_rfl
  have hm : t ∈ Tryd.f4.params.toList := by simpa using Array.mem_of_getElem? ht
  have := List.all_eq_true.1 h t hm
  exact (show Tryd.prog.wantsStandIn t = false by simpa using this)

theorem card : Rows.BoundsStepsCardSaid :=
  Claim7.holds_tied_plain_at .later [] _ _ _ _ said (fun _ h => by cases h) (by kernel_rfl) (fun _ h => by cases h) boundsSteps_row_tie rfl ⟨rfl, rfl⟩ (by kernel_rfl) rfl plain (by kernel_rfl)
end Go.Proofs.YtjhjlkckchelkaaDoor.boundsSteps
