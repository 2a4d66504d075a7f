/- The law ScansPinned holds for every input; no condition but those that its theorems name. -/
import Derived.Test.YtihfnebimfiekaaGreatDoorScansPinnedB1
import Derived.Test.YtihfnebimfiekaaGreatDoorScansPinnedB2
import Derived.Test.YtihfnebimfiekaaGreatDoorScansPinnedB3
import Derived.Test.YtihfnebimfiekaaGreatDoorScansPinnedB4
import Derived.Test.YtihfnebimfiekaaGreatDoorScansPinnedB5
import Derived.Test.YtihfnebimfiekaaGreatDoorScansPinnedB6
import Derived.Test.YtihfnebimfiekaaGreatDoorScansPinnedB7
import Derived.Test.YtihfnebimfiekaaGreatDoorScansPinnedB8
import Derived.Test.YtihfnebimfiekaaGreatDoorScansPinnedB9
import Derived.Test.YtihfnebimfiekaaGreatDoorCards
import Derived.Test.YtihfnebimfiekaaGreatDoorTie
namespace Go.Proofs.YtihfnebimfiekaaGreatDoor.leaf.SP
open Go Go.Mini Go.Mini.Fast
theorem run_all (w : Nat → Nat) (r0 r1 r2 : Nat) (h0 : r0 < 3) (h1 : r1 < 6) (h2 : r2 < 6) : run w r0 r1 r2 = true := by
  have h : ∀ a b, a < 3 → b < 6 → ((List.range 6).all fun i => run w a b i) = true := by
    intro a b ha hb
    match a, b, ha, hb with
    | 0, 0, _, _ => exact c_0_0 w
    | 0, 1, _, _ => exact c_0_1 w
    | 0, 2, _, _ => exact c_0_2 w
    | 0, 3, _, _ => exact c_0_3 w
    | 0, 4, _, _ => exact c_0_4 w
    | 0, 5, _, _ => exact c_0_5 w
    | 1, 0, _, _ => exact c_1_0 w
    | 1, 1, _, _ => exact c_1_1 w
    | 1, 2, _, _ => exact c_1_2 w
    | 1, 3, _, _ => exact c_1_3 w
    | 1, 4, _, _ => exact c_1_4 w
    | 1, 5, _, _ => exact c_1_5 w
    | 2, 0, _, _ => exact c_2_0 w
    | 2, 1, _, _ => exact c_2_1 w
    | 2, 2, _, _ => exact c_2_2 w
    | 2, 3, _, _ => exact c_2_3 w
    | 2, 4, _, _ => exact c_2_4 w
    | 2, 5, _, _ => exact c_2_5 w
  exact List.all_eq_true.1 (h r0 r1 h0 h1) r2 (List.mem_range.2 h2)
theorem reg0 : (regs lawC).find? (fun p => Nat.beq p.1 1) = some (1, (regOf lawC 1).2.1, false) := by kernel_rfl
theorem reg1 : (regs lawC).find? (fun p => Nat.beq p.1 4) = some (4, (regOf lawC 4).2.1, false) := by kernel_rfl
theorem reg2 : (regs lawC).find? (fun p => Nat.beq p.1 5) = some (5, (regOf lawC 5).2.1, false) := by kernel_rfl
theorem ov_ok (w : Nat → Nat) (r0 r1 r2 : Nat) (h0 : w 0 % 3 = r0) (h1 : w 1 % 6 = r1) (h2 : w 2 % 6 = r2) : OvOk Tryz.prog NT V0 (L w) (ov w r0 r1 r2) lawC := by
  intro p hp x hx
  have uq : ∀ {id : Nat} {ops : Array Oper}, (regs lawC).find? (fun p => Nat.beq p.1 id) = some (id, ops, false) → p.1 = id → p = (id, ops, false) := fun hf he => reg_unique reg_ids hp (List.mem_of_find?_eq_some hf) he
  unfold ov at hx
  split at hx
  · rename_i hid
    have e := uq reg0 hid
    subst e
    exact handX_ok (p := 0) (q := 19) (w := w 0) (m := 3) (yt := 5) (o := (regOf lawC 1).2.1.toList[1]!) (hL w) hx (by kernel_rfl) (by kernel_rfl) (by kernel_rfl) (by kernel_rfl) (Nat.le_of_ble_eq_true (by kernel_rfl)) (by decide) (by kernel_rfl) (Nat.le_of_ble_eq_true (by kernel_rfl)) (by decide)
      (by rw [show (regOf lawC 1).2.1.toList.take 1 = [(regOf lawC 1).2.1.toList[0]!] from by kernel_rfl]; exact moves1 (p := 0) (q := 19) (o := (regOf lawC 1).2.1.toList[0]!) (by kernel_rfl) (by kernel_rfl) (by kernel_rfl)) (by simp [L]) h0
  · rename_i hid
    have e := uq reg1 hid
    subst e
    exact handX_ok (p := 1) (q := 29) (w := w 1) (m := 6) (yt := 5) (o := (regOf lawC 4).2.1.toList[1]!) (hL w) hx (by kernel_rfl) (by kernel_rfl) (by kernel_rfl) (by kernel_rfl) (Nat.le_of_ble_eq_true (by kernel_rfl)) (by decide) (by kernel_rfl) (Nat.le_of_ble_eq_true (by kernel_rfl)) (by decide)
      (by rw [show (regOf lawC 4).2.1.toList.take 1 = [(regOf lawC 4).2.1.toList[0]!] from by kernel_rfl]; exact moves1 (p := 1) (q := 29) (o := (regOf lawC 4).2.1.toList[0]!) (by kernel_rfl) (by kernel_rfl) (by kernel_rfl)) (by simp [L]) h1
  · rename_i hid
    have e := uq reg2 hid
    subst e
    exact handX_ok (p := 2) (q := 32) (w := w 2) (m := 6) (yt := 5) (o := (regOf lawC 5).2.1.toList[1]!) (hL w) hx (by kernel_rfl) (by kernel_rfl) (by kernel_rfl) (by kernel_rfl) (Nat.le_of_ble_eq_true (by kernel_rfl)) (by decide) (by kernel_rfl) (Nat.le_of_ble_eq_true (by kernel_rfl)) (by decide)
      (by rw [show (regOf lawC 5).2.1.toList.take 1 = [(regOf lawC 5).2.1.toList[0]!] from by kernel_rfl]; exact moves1 (p := 2) (q := 32) (o := (regOf lawC 5).2.1.toList[0]!) (by kernel_rfl) (by kernel_rfl) (by kernel_rfl)) (by simp [L]) h2
  · cases hx
theorem law_draws : drawsC lawC = true := hdraw 4 Tryz.f4 lawC (by kernel_rfl) Tryz.func4 law_body
theorem main_ (w : Nat → Nat) : ∃ e s1, Sound Tryz.prog (.call 4 [.int .u8 (.ofNat (w 0)), .int .u8 (.ofNat (w 1)), .int .u8 (.ofNat (w 2))] (startS Tryz.prog GL)) ⟨e, [.bool true], s1⟩ := by
  have hr := run_all w (w 0 % 3) (w 1 % 6) (w 2 % 6) (Nat.mod_lt _ (by decide)) (Nat.mod_lt _ (by decide)) (Nat.mod_lt _ (by decide))
  obtain ⟨x, hx, hr⟩ := onSome_t hr
  have hc := compC_ok hmix (hL w) lawC x law_draws (ov_ok w _ _ _ rfl rfl rfl) hx
  have R1 : HR hp0 3 ⟨⟨(startS Tryz.prog GL).h.bs, (startS Tryz.prog GL).h.len, none, []⟩, (startS Tryz.prog GL).nx⟩ := hr0.congr (fun _ => rfl) rfl
  have E : ER ⟨V0, L w⟩ NT env0 ([.int .u8 (.ofNat (w 0)), .int .u8 (.ofNat (w 1)), .int .u8 (.ofNat (w 2))] ++ List.replicate (NT - 3) undefA) :=
    law_start (xs := [.int .u8 (.ofNat (w 0)), .int .u8 (.ofNat (w 1)), .int .u8 (.ofNat (w 2))]) (Nat.le_of_ble_eq_true (by kernel_rfl)) (hL w) (fun p hp => by
      simp only [L, List.mem_cons, List.not_mem_nil, or_false] at hp
      rcases hp with rfl | rfl | rfl <;> exact ⟨Nat.le_of_ble_eq_true rfl, WB_const _ _ fun _ => rfl, rfl⟩) (fun t ht => by
      match t, ht with
      | 0, _ => exact V_bits.1
      | 1, _ => exact V_bits.2.1
      | 2, _ => exact V_bits.2.2)
  obtain ⟨ex, ts', s', e', h', n', a1, a2, a3, a4⟩ := hc _ _ _ _ _ _ _ _ (recL_ok R0_ok lives_all) E R1 hr
  have a5 : (ex = .normal ∨ ex = .ret) ∧ onBool ((acE 6).get e') true false = true := by
    cases ex <;> first | exact ⟨.inl rfl, a4⟩ | exact ⟨.inr rfl, a4⟩ | exact no a4
  rcases onBool_t a5.2 with ⟨a6, _⟩ | ⟨_, a6⟩
  · have a7 : tget ts' 6 = .bool true := by rw [a2.laid 6 (by decide) (by kernel_rfl)]; exact a6
    have a8 : resultsA Tryz.prog ts' s' Tryz.f4.results.toList = some [.bool true] := by
      rw [show Tryz.f4.results.toList = [.tmp 6] from by kernel_rfl]
      simp only [resultsA, resultA, a7]
    exact ⟨_, _, keepC (vs := [.bool true]) Tryz.func4 law_body a1 a5.1 a8⟩
  · exact no a6
def jpks : List Pk := [⟨false, [.int .u8]⟩, ⟨false, [.int .u8]⟩, ⟨false, [.int .u8]⟩]
theorem j_main (xs : List (Bool × List SD)) (h : Fits xs jpks) : ∃ e s1, Sound Tryz.prog (.call 4 (absArgs xs (startS Tryz.prog GL)).1 (absArgs xs (startS Tryz.prog GL)).2) ⟨e, [.bool true], s1⟩ := by
  match xs, h with
  | [(b1, [u1]), (b2, [u2]), (b3, [u3])], ⟨g1, ⟨k1, _⟩, g2, ⟨k2, _⟩, g3, ⟨k3, _⟩, _⟩ =>
    simp only at g1 g2 g3 k1 k2 k3
    subst g1 g2 g3
    cases u1 <;> simp only [Ty] at k1
    cases u2 <;> simp only [Ty] at k2
    cases u3 <;> simp only [Ty] at k3
    obtain ⟨rfl, w1⟩ := k1
    obtain ⟨rfl, w2⟩ := k2
    obtain ⟨rfl, w3⟩ := k3
    rename_i n1 n2 n3
    have c1 := bounds_u8 w1
    have c2 := bounds_u8 w2
    have c3 := bounds_u8 w3
    obtain ⟨m1, rfl⟩ : ∃ t : Nat, n1 = Int.ofNat t := ⟨n1.toNat, by simp only [Int.ofNat_eq_natCast]; omega⟩
    obtain ⟨m2, rfl⟩ : ∃ t : Nat, n2 = Int.ofNat t := ⟨n2.toNat, by simp only [Int.ofNat_eq_natCast]; omega⟩
    obtain ⟨m3, rfl⟩ : ∃ t : Nat, n3 = Int.ofNat t := ⟨n3.toNat, by simp only [Int.ofNat_eq_natCast]; omega⟩
    exact main_ fun i => match i with
      | 0 => m1
      | 1 => m2
      | _ => m3
set_option maxRecDepth 100000 in
theorem contract (H : Type) (enc : TypeId × Value → H) (W : World) (base : Nat) (args : Array Value) (ds gs : List (DataW H)) (before : List MemPlace)
    (hval : ∀ (j : Nat) t v, Tryz.f4.params[j]? = some t → args[j]? = some v → Value.okWide Tryz.prog W .any base t v)
    (hW : DataW.Whole enc Tryz.prog Tryz.f4.params.toList Rows.scansPinnedSpec.vars false W args.toList ds gs before) (hL : laidMetH Tryz.prog Rows.scansPinnedRow.laid W) (hSh : W.ShapedOpen Tryz.prog) :
    Calls Tryz.prog 4 args W fun e W' => ∃ v, e = .returned v ∧ Rows.scansPinnedSpec.post enc Tryz.prog Tryz.f4 false true false false W args v W' :=
  law (G := GL) (pks := jpks) (tb := 4) (by kernel_rfl) (by kernel_rfl) (by kernel_rfl) (by kernel_rfl) (by kernel_rfl) rfl (by kernel_rfl) (by kernel_rfl) (Nat.le_of_ble_eq_true (by kernel_rfl))
    (fun ds hl => by
      match ds, hl with
      | [d1, d2, d3], _ => rfl) j_main hval hW hL hSh
theorem own : ownKnob Tryz.prog.godebug = none := by kernel_rfl
def lay0 : Obj → Obj
  | .cells _ t frozen => .cells ([0,16,16,32,16,48,0,3,3,32,0,3,3,3,6,3,16,48,0,32,32,1].map (Value.int .u64)).toArray t frozen
  | o => o
noncomputable def laidWorld (os : Os) : World :=
  { World.holding Tryz.prog os ⟨#[], #[], []⟩ with heap := ((World.holding Tryz.prog os ⟨#[], #[], []⟩).heap.modify 0 lay0) }
def wargs : Array Value := #[.int .u8 0, .int .u8 0, .int .u8 0]
theorem laid_met (os : Os) : laidMet Tryz.prog Rows.scansPinnedRow.laid ((laidWorld os).forCall (fun _ _ => 0) ⟨#[], wargs, []⟩).memory :=
  laidMet_of_run' 8 (by kernel_rfl) (by kernel_rfl)
theorem reads (os : Os) {H : Type} (enc : TypeId × Value → H) : ∃ places, DataW.whole enc Tryz.prog ((laidWorld os).forCall (fun _ _ => 0) ⟨#[], wargs, []⟩).memory Tryz.f4.params.toList Rows.scansPinnedSpec.vars false wargs.toList 8 = some ([.lit (.int .u8 0), .lit (.int .u8 0), .lit (.int .u8 0)], [], places) :=
  ⟨[], by kernel_rfl⟩

set_option maxRecDepth 100000 in
theorem lifted (os : Os) (started : os.Started) (H : Type) (enc : TypeId × Value → H) (F : Stop.Interp) :
    ReturnsInHanded {} Tryz.checked os 4 .any ((OpenSpec.ofChange Rows.scansPinnedSpec).preRow enc Tryz.prog Tryz.f4 Rows.scansPinnedRow.domain false Rows.scansPinnedRow.laid) (((OpenSpec.ofChange Rows.scansPinnedSpec).at F).post enc Tryz.prog Tryz.f4 false true false false) := by
  obtain ⟨places, hx⟩ := reads os enc
  refine returnsInHanded_of_row (C := Tryz.checked) (s := OpenSpec.ofChange Rows.scansPinnedSpec) own started (by kernel_rfl) Tryz.func4
    (witness_row_at (enc := enc) (C := Tryz.checked) false (laidWorld os) wargs rfl (by kernel_rfl) (by kernel_rfl) (by kernel_rfl)
      (OpenSpec.preRow_of_cond 8 hx (by kernel_rfl) (fun k hk => by cases hk) (by kernel_rfl) (laid_met os))) ?_
  intro W base args ds gs before hval hW _ _ _ hL hSh _
  exact contract H enc W base args ds gs before hval hW hL hSh

theorem said : Rows.ScansPinnedSaid :=
  OpenClaim.holds_of_cond 4 Tryz.f4 rfl rfl rfl rfl rfl rfl rfl ⟨rfl, rfl, rfl, rfl, rfl⟩ rfl rfl rfl rfl rfl (by kernel_rfl) Tryz.func4 (by kernel_rfl)
    (of_decide_eq_true (by kernel_rfl)) (by unfold Func.isWrapper; first | (rw [if_pos (by decide +kernel)]; kernel_rfl) | (rw [if_neg (by decide +kernel)]; exact ⟨rfl, rfl⟩))
    (fun os started H enc _ F => by rw [OpenClaim.pre_eq_preRow]; exact lifted os started H enc F)

theorem plain (f : FuncId) (fn : Func) (hf : Tryz.pinned.checked.prog.funcNamed "ragpicker/ragpickerlaw21.ScansPinned" = some f) (hfn : Tryz.pinned.checked.prog.funcs[f]? = some fn) :
    true = Tryz.pinned.checked.prog.looks [] ∧ ∀ (j : Nat) t, fn.params[j]? = some t → Tryz.pinned.checked.prog.wantsStandIn t = false := by
  obtain rfl : f = 4 := Option.some.inj ((show Tryz.prog.funcNamed "ragpicker/ragpickerlaw21.ScansPinned" = some 4 by kernel_rfl).symm.trans hf) |>.symm
  obtain rfl : fn = Tryz.f4 := (Option.some.inj (Tryz.func4.symm.trans hfn)).symm
  refine ⟨by kernel_rfl, fun j t ht => ?_⟩
  have h : (Tryz.f4.params.toList.all fun t => !Tryz.prog.wantsStandIn t) = true := by kernel_rfl
  have hm : t ∈ Tryz.f4.params.toList := by simpa using Array.mem_of_getElem? ht
  have := List.all_eq_true.1 h t hm
  exact (show Tryz.prog.wantsStandIn t = false by simpa using this)

theorem card : Rows.ScansPinnedCardSaid :=
  Claim7.holds_tied_plain_at .later [] _ _ _ _ said (fun _ h => by cases h) (by kernel_rfl) (fun _ h => by cases h) scansPinned_row_tie rfl ⟨rfl, rfl⟩ (by kernel_rfl) rfl plain (by kernel_rfl)
end Go.Proofs.YtihfnebimfiekaaGreatDoor.leaf.SP
namespace Go.Proofs.YtihfnebimfiekaaGreatDoor
/-- The statement ScansPinned, with what the card asks. -/
theorem scansPinned.card : Rows.ScansPinnedCardSaid := leaf.SP.card
end Go.Proofs.YtihfnebimfiekaaGreatDoor
