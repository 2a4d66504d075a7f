/- The law NodesSeen returns true for every input, and leaves its arguments as they were: its row, and its card. Conditions: those that each theorem names, and no others. -/
import Derived.Test.YtipadnlhcnmgaaaDoorSeen13
import Derived.Test.YtipadnlhcnmgaaaDoorSeen11
import Derived.Test.YtipadnlhcnmgaaaDoorSeen9
import Derived.Test.YtipadnlhcnmgaaaDoorSeen7
import Derived.Test.YtipadnlhcnmgaaaDoorCards
import Derived.Test.YtipadnlhcnmgaaaDoorTie
namespace Go.Proofs.YtipadnlhcnmgaaaDoor.nodesSeen
open Go Go.Mini
theorem law_ge (S Z gen most : Nat) : runX Tryd.prog none_ 120 6 (.call 6 [.agg [.int .u8 (Int.ofNat S), .int .u8 (Int.ofNat Z)], .int .u32 (Int.ofNat gen), .int .u32 (Int.ofNat most)] (startS Tryd.prog G2)) [.val 6 2 2 (.bool true), .pure 6 3 0 G2 (.bool true)] = some ({ e := AExit.ret, ts := [AV.bool true], s := { h := { bs := [(0, AObj.cells true wf), (1, AObj.cells true lf)], len := 2, esc := none, wr := [] }, nx := 3 } }, [], [Qst.val (some (AV.bool (decide (Int.ofNat gen ≥ Int.ofNat most)))) (AV.bool true), Qst.pure [(0, wf), (1, lf)] 25 [] (AV.bool true)]) := by kernel_rfl
theorem law_true (S Z gen most : Nat) (hS : S < 256) (hZ : Z < 256) (hm : most < 4294967296) : ∃ e s1, Sound Tryd.prog (.call 6 [.agg [.int .u8 (Int.ofNat S), .int .u8 (Int.ofNat Z)], .int .u32 (Int.ofNat gen), .int .u32 (Int.ofNat most)] (startS Tryd.prog G2)) ⟨e, [.bool true], s1⟩ := by
  by_cases hlt : gen < most
  · have h4 : Z % 4 = 0 ∨ Z % 4 = 1 ∨ Z % 4 = 2 ∨ Z % 4 = 3 := by omega
    rcases h4 with h | h | h | h
    · exact law_0_true S Z gen most hS hZ hlt hm h
    · exact law_1_true S Z gen most hS hZ hlt hm h
    · exact law_2_true S Z gen most hS hZ hlt hm h
    · exact law_3_true S Z gen most hS hZ hlt hm h
  · exact ⟨_, _, runX_sound mixed none_sound (law_ge S Z gen most) ⟨by simp [Qst.ok]; omega, lives_call, trivial⟩⟩
def pks : List Pk := [⟨true, [.int .u8, .int .u8]⟩, ⟨false, [.int .u32]⟩, ⟨false, [.int .u32]⟩]
theorem main_ (xs : List (Bool × List SD)) (h : Fits xs pks) : ∃ e s1, Sound Tryd.prog (.call 6 (absArgs xs (startS Tryd.prog G2)).1 (absArgs xs (startS Tryd.prog G2)).2) ⟨e, [.bool true], s1⟩ := by
  obtain ⟨a, b, x, y, rfl, ha, hb, hx, hy⟩ : ∃ a b x y, xs = [(true, [.i .u8 a, .i .u8 b]), (false, [.i .u32 x]), (false, [.i .u32 y])] ∧ (Lit.int .u8 a).wf = true ∧ (Lit.int .u8 b).wf = true ∧ (Lit.int .u32 x).wf = true ∧ (Lit.int .u32 y).wf = true := by
    match xs, h with
    | [(a, [s1, s1']), (b, [s2]), (c, [s3])], ⟨h1, ⟨h2, h2', _⟩, h3, ⟨h4, _⟩, h5, ⟨h6, _⟩, _⟩ =>
      simp only at h1 h2 h2' h3 h4 h5 h6
      subst h1 h3 h5
      cases s1 <;> simp only [Ty] at h2
      cases s1' <;> simp only [Ty] at h2'
      cases s2 <;> simp only [Ty] at h4
      cases s3 <;> simp only [Ty] at h6
      obtain ⟨rfl, w1⟩ := h2
      obtain ⟨rfl, w2⟩ := h2'
      obtain ⟨rfl, w3⟩ := h4
      obtain ⟨rfl, w4⟩ := h6
      exact ⟨_, _, _, _, rfl, w1, w2, w3, w4⟩
  have ha := bounds_u8 ha
  have hb := bounds_u8 hb
  have hx := bounds_u32 hx
  have hy := bounds_u32 hy
  show ∃ e s1, Sound Tryd.prog (.call 6 [.agg [.int .u8 a, .int .u8 b], .int .u32 x, .int .u32 y] (startS Tryd.prog G2)) ⟨e, [.bool true], s1⟩
  obtain ⟨S, rfl⟩ : ∃ n : Nat, a = Int.ofNat n := ⟨a.toNat, by simp; omega⟩
  obtain ⟨Z, rfl⟩ : ∃ n : Nat, b = Int.ofNat n := ⟨b.toNat, by simp; omega⟩
  obtain ⟨gen, rfl⟩ : ∃ n : Nat, x = Int.ofNat n := ⟨x.toNat, by simp; omega⟩
  obtain ⟨most, rfl⟩ : ∃ n : Nat, y = Int.ofNat n := ⟨y.toNat, by simp; omega⟩
  simp only [Int.ofNat_eq_natCast] at ha hb hx hy
  exact law_true S Z gen most (by omega) (by omega) (by omega)

set_option maxRecDepth 100000 in
theorem contract (H : Type) (enc : TypeId × Value → H) (W : World) (base : Nat) (args : Array Value) (ds gs : List (DataW H)) (before : List MemPlace)
    (hval : ∀ (j : Nat) t v, Tryd.f6.params[j]? = some t → args[j]? = some v → Value.okWide Tryd.prog W .any base t v)
    (hW : DataW.Whole enc Tryd.prog Tryd.f6.params.toList Rows.nodesSeenSpec.vars false W args.toList ds gs before) (hL : laidMetH Tryd.prog Rows.nodesSeenRow.laid W) (hSh : W.ShapedOpen Tryd.prog) :
    Calls Tryd.prog 6 args W fun e W' => ∃ v, e = .returned v ∧ Rows.nodesSeenSpec.post enc Tryd.prog Tryd.f6 false true false false W args v W' :=
  law (G := G2) (pks := pks) (tb := 4) (by kernel_rfl) (by kernel_rfl) (by kernel_rfl) (by kernel_rfl) (by kernel_rfl) rfl (by kernel_rfl) (by kernel_rfl) (Nat.le_of_ble_eq_true (by kernel_rfl))
    (fun ds hl => by
      match ds, hl with
      | [d1, d2, d3], _ => rfl) main_ hval hW hL hSh

theorem own : ownKnob Tryd.prog.godebug = none := by kernel_rfl
def lineV (c f t a : Int) : List Value := [.int .u8 c, .int .u8 f, .int .u8 t, .int .i64 a]
def put0 : Obj → Obj
  | .cells _ t frozen => .cells ([0,16,16,32,16,48,0,3,3,32,0,3,3,3,6,3,16,48,0,32,32,1].map (Value.int .u64)).toArray t frozen
  | o => o
def put1 : Obj → Obj
  | .cells _ t frozen => .cells (lineV 1 0 1 0 ++ lineV 2 1 2 0 ++ lineV 3 2 0 1 ++ lineV 4 1 0 1 ++ lineV 5 1 4 2 ++ lineV 5 2 4 2 ++ lineV 6 0 3 0 ++ lineV 7 3 0 0).toArray t frozen
  | o => o
noncomputable def laidWorld (os : Os) : World :=
  { World.holding Tryd.prog os ⟨#[], #[], []⟩ with heap := ((World.holding Tryd.prog os ⟨#[], #[], []⟩).heap.modify 0 put0).modify 1 put1 }
def wargs : Array Value := #[.agg #[.int .u8 0, .int .u8 0], .int .u32 0, .int .u32 0]
theorem laid_met (os : Os) : laidMet Tryd.prog Rows.nodesSeenRow.laid ((laidWorld os).forCall (fun _ _ => 0) ⟨#[], wargs, []⟩).memory :=
  laidMet_of_run' 8 (by kernel_rfl) (by kernel_rfl)
theorem reads (os : Os) {H : Type} (enc : TypeId × Value → H) : ∃ places, DataW.whole enc Tryd.prog ((laidWorld os).forCall (fun _ _ => 0) ⟨#[], wargs, []⟩).memory Tryd.f6.params.toList Rows.nodesSeenSpec.vars false wargs.toList 8 = some ([.agg [.lit (.int .u8 0), .lit (.int .u8 0)], .lit (.int .u32 0), .lit (.int .u32 0)], [], places) :=
  ⟨[], by kernel_rfl⟩

set_option maxRecDepth 100000 in
theorem lifted (os : Os) (started : os.Started) (H : Type) (enc : TypeId × Value → H) (F : Stop.Interp) :
    ReturnsInHanded {} Tryd.checked os 6 .any ((OpenSpec.ofChange Rows.nodesSeenSpec).preRow enc Tryd.prog Tryd.f6 Rows.nodesSeenRow.domain false Rows.nodesSeenRow.laid) (((OpenSpec.ofChange Rows.nodesSeenSpec).at F).post enc Tryd.prog Tryd.f6 false true false false) := by
  obtain ⟨places, hx⟩ := reads os enc
  refine returnsInHanded_of_row (C := Tryd.checked) (s := OpenSpec.ofChange Rows.nodesSeenSpec) own started (by kernel_rfl) Tryd.func6
    (witness_row_at (enc := enc) (C := Tryd.checked) false (laidWorld os) wargs rfl (by kernel_rfl) (by kernel_rfl) (by kernel_rfl)
      (OpenSpec.preRow_of_cond 8 hx (by kernel_rfl) (fun k hk => by cases hk) (by kernel_rfl) (laid_met os))) ?_
  intro W base args ds gs before hval hW _ _ _ hL hSh _
  exact contract H enc W base args ds gs before hval hW hL hSh

theorem said : Rows.NodesSeenSaid :=
  OpenClaim.holds_of_cond 6 Tryd.f6 rfl rfl rfl rfl rfl rfl rfl ⟨rfl, rfl, rfl, rfl, rfl⟩ rfl rfl rfl rfl rfl (by kernel_rfl) Tryd.func6 (by kernel_rfl)
    (of_decide_eq_true (by kernel_rfl)) (by unfold Func.isWrapper; first | (rw [if_pos (by decide +kernel)]; kernel_rfl) | (rw [if_neg (by decide +kernel)]; exact ⟨rfl, rfl⟩))
    (fun os started H enc _ F => by rw [OpenClaim.pre_eq_preRow]; exact lifted os started H enc F)

theorem plain (f : FuncId) (fn : Func) (hf : Tryd.pinned.checked.prog.funcNamed "ragpicker/ragpickerlaw25.NodesSeen" = some f) (hfn : Tryd.pinned.checked.prog.funcs[f]? = some fn) :
    false = Tryd.pinned.checked.prog.looks [] ∧ ∀ (j : Nat) t, fn.params[j]? = some t → Tryd.pinned.checked.prog.wantsStandIn t = false := by
  obtain rfl : f = 6 := Option.some.inj ((show Tryd.prog.funcNamed "ragpicker/ragpickerlaw25.NodesSeen" = some 6 by kernel_rfl).symm.trans hf) |>.symm
  obtain rfl : fn = Tryd.f6 := (Option.some.inj (Tryd.func6.symm.trans hfn)).symm
  refine ⟨by kernel_rfl, fun j t ht => ?_⟩
  have h : (Tryd.f6.params.toList.all fun t => !Tryd.prog.wantsStandIn t) = true := by kernel_rfl
  have hm : t ∈ Tryd.f6.params.toList := by simpa using Array.mem_of_getElem? ht
  have := List.all_eq_true.1 h t hm
  exact (show Tryd.prog.wantsStandIn t = false by simpa using this)

theorem card : Rows.NodesSeenCardSaid :=
  Claim7.holds_tied_plain_at .later [] _ _ _ _ said (fun _ h => by cases h) (by kernel_rfl) (fun _ h => by cases h) nodesSeen_row_tie rfl ⟨rfl, rfl⟩ (by kernel_rfl) rfl plain (by kernel_rfl)
end Go.Proofs.YtipadnlhcnmgaaaDoor.nodesSeen
