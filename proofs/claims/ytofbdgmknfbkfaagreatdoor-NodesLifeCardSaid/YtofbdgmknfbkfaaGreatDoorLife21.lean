/- The law NodesLife returns true for every input, and leaves its arguments as they were: its row, and its card. Conditions: those that each theorem names, and no others. -/
import Derived.Test.YtofbdgmknfbkfaaGreatDoorLife20
import Derived.Test.YtofbdgmknfbkfaaGreatDoorMini3
import Derived.Test.YtofbdgmknfbkfaaGreatDoorCards
import Derived.Test.YtofbdgmknfbkfaaGreatDoorTie
namespace Go.Proofs.YtofbdgmknfbkfaaGreatDoor.nodesLife
open Go Go.Mini
/-! ### any arguments; the contract; the card -/
theorem uBs : Tryz.prog.underlying 22 = some (.slice 59) := by kernel_rfl
theorem zBy : sizeA Tryz.prog 59 = some 1 := by kernel_rfl
theorem rb_nil (k : Nat) : RwU .nilSlice k [] [] := ⟨fun s => by simp only [lenA, uBs]; rfl, fun i hi => absurd hi (Nat.not_lt_zero i), ⟨[], rfl⟩, fun x hx => by cases hx⟩
theorem rb_sl (k : Nat) (L : List Nat) (hL : ∀ x ∈ L, x < 65536) (len c : Nat) (h : len ≤ L.length) : RwU (.slice k 0 len c) k (L.map u16) (L.take len) := by
  have hlen : (L.take len).length = len := by simp; omega
  refine ⟨fun s => ?_, fun i hi => ?_, ⟨L.drop len, by rw [List.take_append_drop]⟩, fun x hx => hL x (List.mem_of_mem_take hx)⟩
  · rw [hlen]
    simp only [lenA, uBs]
    rfl
  · rw [hlen] at hi
    rw [idx_slice (o := 0) uBs zBy hi, Nat.zero_add, Nat.mul_one]
theorem rows_u16 : ∀ (rows : List (List SD)), Tyss rows [.int .u16] → ∃ L : List Nat, (∀ s : AS, absRows rows s = (L.map u16, s)) ∧ L.length = rows.length ∧ ∀ x ∈ L, x < 65536
  | [], _ => ⟨[], fun _ => rfl, rfl, fun x hx => by cases hx⟩
  | r :: rs, h => by
    obtain ⟨h1, h2⟩ := h
    obtain ⟨L, e1, e2, e3⟩ := rows_u16 rs h2
    match r, h1 with
    | [x0], ⟨k0, _⟩ =>
      cases x0 <;> simp only [Ty] at k0
      obtain ⟨rfl, w0⟩ := k0
      rename_i n0
      have c0 := bounds_u16 w0
      obtain ⟨m0, rfl⟩ : ∃ t : Nat, n0 = Int.ofNat t := ⟨n0.toNat, by simp only [Int.ofNat_eq_natCast]; omega⟩
      refine ⟨m0 :: L, fun s => ?_, by simp [e2], fun x hx => ?_⟩
      · show ((absCs [.i .u16 (Int.ofNat m0)] s).1 ++ (absRows rs (absCs [.i .u16 (Int.ofNat m0)] s).2).1, (absRows rs (absCs [.i .u16 (Int.ofNat m0)] s).2).2) = _
        have e4 : absCs [.i .u16 (Int.ofNat m0)] s = ([.int .u16 (Int.ofNat m0)], s) := rfl
        rw [e4]
        simp only [e1]
        rfl
      · rcases List.mem_cons.1 hx with rfl | hx
        · have := c0.2
          simp only [Int.ofNat_eq_natCast] at this
          omega
        · exact e3 x hx
def GL : List (Nat × List AV) := [(1, wf), (0, lf)]
def jpks : List Pk := [⟨false, [.sl [.int .u16]]⟩, ⟨true, [.int .u8, .int .u8, .int .u8]⟩]
theorem st_eq : startS Tryz.prog GL = ⟨⟨[(1, .cells true wf), (0, .cells true lf)], 2, none, []⟩, 2⟩ := by
  show (⟨⟨_, _, none, []⟩, Tryz.prog.globals.size⟩ : AS) = _
  rw [glN2]
  rfl
theorem j_main (xs : List (Bool × List SD)) (h : Fits xs jpks) : ∃ e s1, Sound Tryz.prog (.call 3 (absArgs xs (startS Tryz.prog GL)).1 (absArgs xs (startS Tryz.prog GL)).2) ⟨e, [.bool true], s1⟩ := by
  match xs, h with
  | [(b1, [u1]), (b2, [v1, v2, v3])], ⟨g1, ⟨k1, _⟩, g2, ⟨k2, k3, k4, _⟩, _⟩ =>
    simp only at g1 g2 k1 k2 k3 k4
    subst g1 g2
    rw [st_eq]
    cases v1 <;> simp only [Ty] at k2
    cases v2 <;> simp only [Ty] at k3
    cases v3 <;> simp only [Ty] at k4
    obtain ⟨rfl, w2⟩ := k2
    obtain ⟨rfl, w3⟩ := k3
    obtain ⟨rfl, w4⟩ := k4
    rename_i m2 m3 m4
    have b2 := bounds_u8 w2
    have b3 := bounds_u8 w3
    have b4 := bounds_u8 w4
    obtain ⟨z0, rfl⟩ : ∃ t : Nat, m2 = Int.ofNat t := ⟨m2.toNat, by simp only [Int.ofNat_eq_natCast]; omega⟩
    obtain ⟨z1, rfl⟩ : ∃ t : Nat, m3 = Int.ofNat t := ⟨m3.toNat, by simp only [Int.ofNat_eq_natCast]; omega⟩
    obtain ⟨z2, rfl⟩ : ∃ t : Nat, m4 = Int.ofNat t := ⟨m4.toNat, by simp only [Int.ofNat_eq_natCast]; omega⟩
    have h0 : z0 < 256 := by have := b2.2; simp only [Int.ofNat_eq_natCast] at this; omega
    have h1 : z1 < 256 := by have := b3.2; simp only [Int.ofNat_eq_natCast] at this; omega
    have h2 : z2 < 256 := by have := b4.2; simp only [Int.ofNat_eq_natCast] at this; omega
    cases u1 with
    | nil =>
      obtain ⟨e, s1, hs⟩ := law_call h0 h1 h2 (rb_nil 2)
      exact ⟨e, s1, Sound.phantom (.cells true []) hs⟩
    | sl rows len =>
      simp only [Ty] at k1
      obtain ⟨l1, l2, l3⟩ := k1
      obtain ⟨B, e1, e2, e3⟩ := rows_u16 rows l3
      have e5 : absArgs [(false, [.sl rows len]), (true, [.i .u8 (Int.ofNat z0), .i .u8 (Int.ofNat z1), .i .u8 (Int.ofNat z2)])] ⟨⟨[(1, .cells true wf), (0, .cells true lf)], 2, none, []⟩, 2⟩ = ([.slice 2 0 len rows.length, .agg [u8 z0, u8 z1, u8 z2]], sZ (B.map u16)) := by
        simp only [absArgs, absCs, absC, e1]
        rfl
      rw [e5]
      exact law_call h0 h1 h2 (rb_sl 2 B e3 len rows.length (by omega))
    | _ => simp only [Ty] at k1
set_option maxRecDepth 100000 in
theorem contract (H : Type) (enc : TypeId × Value → H) (W : World) (base : Nat) (args : Array Value) (ds gs : List (DataW H)) (before : List MemPlace)
    (hval : ∀ (j : Nat) t v, Tryz.f3.params[j]? = some t → args[j]? = some v → Value.okWide Tryz.prog W .any base t v)
    (hW : DataW.Whole enc Tryz.prog Tryz.f3.params.toList Rows.nodesLifeSpec.vars false W args.toList ds gs before) (hL : laidMetH Tryz.prog Rows.nodesLifeRow.laid W) (hSh : W.ShapedOpen Tryz.prog) :
    Calls Tryz.prog 3 args W fun e W' => ∃ v, e = .returned v ∧ Rows.nodesLifeSpec.post enc Tryz.prog Tryz.f3 false true false false W args v W' :=
  law (G := GL) (pks := jpks) (tb := 4) (by kernel_rfl) (by kernel_rfl) (by kernel_rfl) (by kernel_rfl) (by kernel_rfl) rfl (by kernel_rfl) (by kernel_rfl) (Nat.le_of_ble_eq_true (by kernel_rfl))
    (fun ds hl => by
      match ds, hl with
      | [d1, d2], _ => rfl) j_main hval hW hL hSh

theorem ownK : ownKnob Tryz.prog.godebug = none := by kernel_rfl
def lineV (c f t a : Int) : List Value := [.int .u8 c, .int .u8 f, .int .u8 t, .int .i64 a]
def wput1 : Obj → Obj
  | .cells _ t frozen => .cells ([0,16,16,32,16,48,0,3,3,32,0,3,3,3,6,3,16,48,0,32,32,1].map (Value.int .u64)).toArray t frozen
  | o => o
def wput0 : Obj → Obj
  | .cells _ t frozen => .cells (lineV 1 0 1 0 ++ lineV 2 1 2 0 ++ lineV 3 2 0 1 ++ lineV 4 1 0 1 ++ lineV 5 1 4 2 ++ lineV 5 2 4 2 ++ lineV 6 0 3 0 ++ lineV 7 3 0 0).toArray t frozen
  | o => o
noncomputable def laidWorld (os : Os) : World :=
  { World.holding Tryz.prog os ⟨#[], #[], []⟩ with heap := ((World.holding Tryz.prog os ⟨#[], #[], []⟩).heap.modify 0 wput0).modify 1 wput1 }
def wargs : Array Value := #[.slice none 0 0, .agg #[.int .u8 0, .int .u8 0, .int .u8 0]]
theorem laid_met (os : Os) : laidMet Tryz.prog Rows.nodesLifeRow.laid ((laidWorld os).forCall (fun _ _ => 0) ⟨#[], wargs, []⟩).memory :=
  laidMet_of_run' 8 (by kernel_rfl) (by kernel_rfl)
theorem reads (os : Os) {H : Type} (enc : TypeId × Value → H) : ∃ places, DataW.whole enc Tryz.prog ((laidWorld os).forCall (fun _ _ => 0) ⟨#[], wargs, []⟩).memory Tryz.f3.params.toList Rows.nodesLifeSpec.vars false wargs.toList 8 = some ([.nil, .agg [.lit (.int .u8 0), .lit (.int .u8 0), .lit (.int .u8 0)]], [], places) :=
  ⟨[], by kernel_rfl⟩

set_option maxRecDepth 100000 in
theorem lifted (os : Os) (started : os.Started) (H : Type) (enc : TypeId × Value → H) (F : Stop.Interp) :
    ReturnsInHanded {} Tryz.checked os 3 .any ((OpenSpec.ofChange Rows.nodesLifeSpec).preRow enc Tryz.prog Tryz.f3 Rows.nodesLifeRow.domain false Rows.nodesLifeRow.laid) (((OpenSpec.ofChange Rows.nodesLifeSpec).at F).post enc Tryz.prog Tryz.f3 false true false false) := by
  obtain ⟨places, hx⟩ := reads os enc
  refine returnsInHanded_of_row (C := Tryz.checked) (s := OpenSpec.ofChange Rows.nodesLifeSpec) ownK started (by kernel_rfl) Tryz.func3
    (witness_row_at (enc := enc) (C := Tryz.checked) false (laidWorld os) wargs rfl (by kernel_rfl) (by kernel_rfl) (by kernel_rfl)
      (OpenSpec.preRow_of_cond 8 hx (by kernel_rfl) (fun k hk => by cases hk) (by kernel_rfl) (laid_met os))) ?_
  intro W base args ds gs before hval hW _ _ _ hL hSh _
  exact contract H enc W base args ds gs before hval hW hL hSh

theorem said : Rows.NodesLifeSaid :=
  OpenClaim.holds_of_cond 3 Tryz.f3 rfl rfl rfl rfl rfl rfl rfl ⟨rfl, rfl, rfl, rfl, rfl⟩ rfl rfl rfl rfl rfl (by kernel_rfl) Tryz.func3 (by kernel_rfl)
    (of_decide_eq_true (by kernel_rfl)) (by unfold Func.isWrapper; first | (rw [if_pos (by decide +kernel)]; kernel_rfl) | (rw [if_neg (by decide +kernel)]; exact ⟨rfl, rfl⟩))
    (fun os started H enc _ F => by rw [OpenClaim.pre_eq_preRow]; exact lifted os started H enc F)

theorem plain (f : FuncId) (fn : Func) (hf : Tryz.pinned.checked.prog.funcNamed "ragpicker/ragpickerlaw25.NodesLife" = some f) (hfn : Tryz.pinned.checked.prog.funcs[f]? = some fn) :
    true = Tryz.pinned.checked.prog.looks [] ∧ ∀ (j : Nat) t, fn.params[j]? = some t → Tryz.pinned.checked.prog.wantsStandIn t = false := by
  obtain rfl : f = 3 := Option.some.inj ((show Tryz.prog.funcNamed "ragpicker/ragpickerlaw25.NodesLife" = some 3 by kernel_rfl).symm.trans hf) |>.symm
  obtain rfl : fn = Tryz.f3 := (Option.some.inj (Tryz.func3.symm.trans hfn)).symm
  refine ⟨by kernel_rfl, fun j t ht => ?_⟩
  have h : (Tryz.f3.params.toList.all fun t => !Tryz.prog.wantsStandIn t) = true := by kernel_rfl
  have hm : t ∈ Tryz.f3.params.toList := by simpa using Array.mem_of_getElem? ht
  have := List.all_eq_true.1 h t hm
  exact (show Tryz.prog.wantsStandIn t = false by simpa using this)

theorem card : Rows.NodesLifeCardSaid :=
  Claim7.holds_tied_plain_at .later [] _ _ _ _ said (fun _ h => by cases h) (by kernel_rfl) (fun _ h => by cases h) nodesLife_row_tie rfl ⟨rfl, rfl⟩ (by kernel_rfl) rfl plain (by kernel_rfl)
end Go.Proofs.YtofbdgmknfbkfaaGreatDoor.nodesLife
