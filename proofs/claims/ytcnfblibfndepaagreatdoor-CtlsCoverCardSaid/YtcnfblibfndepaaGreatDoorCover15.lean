/- The law CtlsCover returns true for every input, and leaves its argument as it was: its row, and its card. Conditions: those that each theorem names, and no others. -/
import Derived.Test.YtcnfblibfndepaaGreatDoorCover14
import Derived.Test.YtcnfblibfndepaaGreatDoorCards
import Derived.Test.YtcnfblibfndepaaGreatDoorTie
namespace Go.Proofs.YtcnfblibfndepaaGreatDoor.ctlsCover
open Go Go.Mini
/-! ### any arguments; the contract; the card -/
theorem uBs : Tryz.prog.underlying 22 = some (.slice 5) := by kernel_rfl
theorem zBy : sizeA Tryz.prog 5 = some 1 := by kernel_rfl
theorem rc_nil (k : Nat) : RwB .nilSlice k [] [] := ⟨fun s => by simp only [lenA, uBs]; rfl, fun i hi => absurd hi (Nat.not_lt_zero i), ⟨[], rfl⟩, fun x hx => by cases hx⟩
theorem rc_sl (k : Nat) (L : List Nat) (hL : ∀ x ∈ L, x < 256) (len c : Nat) (h : len ≤ L.length) : RwB (.slice k 0 len c) k (L.map fun n => AV.int .u8 (Int.ofNat n)) (L.take len) := by
  have hlen : (L.take len).length = len := by simp; omega
  refine ⟨fun s => ?_, fun i hi => ?_, ⟨L.drop len, by rw [List.take_append_drop]⟩, fun x hx => hL x (List.mem_of_mem_take hx)⟩
  · rw [hlen]
    simp only [lenA, uBs]
    rfl
  · rw [hlen] at hi
    rw [idx_slice (o := 0) uBs zBy hi, Nat.zero_add, Nat.mul_one]
theorem rows_by : ∀ (rows : List (List SD)), Tyss rows [.int .u8] → ∃ L : List Nat, (∀ s : AS, absRows rows s = (L.map fun n => AV.int .u8 (Int.ofNat n), s)) ∧ L.length = rows.length ∧ ∀ x ∈ L, x < 256
  | [], _ => ⟨[], fun _ => rfl, rfl, fun x hx => by cases hx⟩
  | r :: rs, h => by
    obtain ⟨h1, h2⟩ := h
    obtain ⟨L, e1, e2, e3⟩ := rows_by rs h2
    match r, h1 with
    | [x0], ⟨k0, _⟩ =>
      cases x0 <;> simp only [Ty] at k0
      obtain ⟨rfl, w0⟩ := k0
      rename_i n0
      have c0 := bounds_u8 w0
      obtain ⟨m0, rfl⟩ : ∃ t : Nat, n0 = Int.ofNat t := ⟨n0.toNat, by simp only [Int.ofNat_eq_natCast]; omega⟩
      refine ⟨m0 :: L, fun s => ?_, by simp [e2], fun x hx => ?_⟩
      · show ((absCs [.i .u8 (Int.ofNat m0)] s).1 ++ (absRows rs (absCs [.i .u8 (Int.ofNat m0)] s).2).1, (absRows rs (absCs [.i .u8 (Int.ofNat m0)] s).2).2) = _
        have e4 : absCs [.i .u8 (Int.ofNat m0)] s = ([.int .u8 (Int.ofNat m0)], s) := rfl
        rw [e4]
        simp only [e1]
        rfl
      · rcases List.mem_cons.1 hx with rfl | hx
        · have := c0.2
          simp only [Int.ofNat_eq_natCast] at this
          omega
        · exact e3 x hx
def GL : List (Nat × List AV) := [(1, wfB), (2, wfP), (0, wfW)]
def jpks : List Pk := [⟨true, [.int .u8, .sl [.int .u8], .int .u8, .sl [.int .u8]]⟩]
theorem st_eq : startS Tryz.prog GL = ⟨⟨[(1, .cells true wfB), (2, .cells true wfP), (0, .cells true wfW)], 3, none, []⟩, 3⟩ := by
  show (⟨⟨_, _, none, []⟩, Tryz.prog.globals.size⟩ : AS) = _
  rw [glN]
  rfl
def G0 : List (Nat × AObj) := [(1, .cells true wfB), (2, .cells true wfP), (0, .cells true wfW)]
theorem j_main (xs : List (Bool × List SD)) (h : Fits xs jpks) : ∃ e s1, Sound Tryz.prog (.call 3 (absArgs xs (startS Tryz.prog GL)).1 (absArgs xs (startS Tryz.prog GL)).2) ⟨e, [.bool true], s1⟩ := by
  match xs, h with
  | [(b1, [u1, u2, u3, u4])], ⟨g1, ⟨k1, k2, k3, k4, _⟩, _⟩ =>
    simp only at g1 k1 k2 k3 k4
    subst g1
    rw [st_eq]
    cases u1 <;> simp only [Ty] at k1
    cases u3 <;> simp only [Ty] at k3
    obtain ⟨rfl, w1⟩ := k1
    obtain ⟨rfl, w3⟩ := k3
    rename_i m1 m3
    have b1 := bounds_u8 w1
    have b3 := bounds_u8 w3
    obtain ⟨fr, rfl⟩ : ∃ t : Nat, m1 = Int.ofNat t := ⟨m1.toNat, by simp only [Int.ofNat_eq_natCast]; omega⟩
    obtain ⟨lk, rfl⟩ : ∃ t : Nat, m3 = Int.ofNat t := ⟨m3.toNat, by simp only [Int.ofNat_eq_natCast]; omega⟩
    have hlk : lk < 256 := by
      have := b3.2
      simp only [Int.ofNat_eq_natCast] at this
      omega
    cases u2 with
    | nil =>
      cases u4 with
      | nil =>
        obtain ⟨e, s1, hs⟩ := law_call (fr := fr) hlk (rc_nil 3) (rc_nil 4)
        exact ⟨e, s1, Sound.phantom (.cells true []) (Sound.phantom (.cells true []) hs)⟩
      | sl rows len =>
        simp only [Ty] at k4
        obtain ⟨l1, l2, l3⟩ := k4
        obtain ⟨B, e1, e2, e3⟩ := rows_by rows l3
        have e5 : absArgs [(true, [.i .u8 (Int.ofNat fr), .nil, .i .u8 (Int.ofNat lk), .sl rows len])] ⟨⟨G0, 3, none, []⟩, 3⟩ = ([.agg [.int .u8 (Int.ofNat fr), .nilSlice, .int .u8 (Int.ofNat lk), .slice 3 0 len rows.length]], ⟨⟨(3, .cells true (B.map fun n => AV.int .u8 (Int.ofNat n))) :: G0, 4, none, []⟩, 4⟩) := by
          simp only [absArgs, absCs, absC, e1]
          rfl
        obtain ⟨e, s1, hs⟩ := law_short (fr := fr) (lk := lk) (FT := B.map fun n => AV.int .u8 (Int.ofNat n)) (FL := []) (rc_sl 3 B e3 len rows.length (by omega)).len (rc_nil 3).len (.inr rfl)
        have e5 := e5
        unfold G0 at e5
        rw [e5]
        exact ⟨e, s1, Sound.phantom (.cells true []) hs⟩
      | _ => simp only [Ty] at k4
    | sl rows len =>
      simp only [Ty] at k2
      obtain ⟨l1, l2, l3⟩ := k2
      obtain ⟨L, e1, e2, e3⟩ := rows_by rows l3
      cases u4 with
      | nil =>
        have e5 : absArgs [(true, [.i .u8 (Int.ofNat fr), .sl rows len, .i .u8 (Int.ofNat lk), .nil])] ⟨⟨G0, 3, none, []⟩, 3⟩ = ([.agg [.int .u8 (Int.ofNat fr), .slice 3 0 len rows.length, .int .u8 (Int.ofNat lk), .nilSlice]], ⟨⟨(3, .cells true (L.map fun n => AV.int .u8 (Int.ofNat n))) :: G0, 4, none, []⟩, 4⟩) := by
          simp only [absArgs, absCs, absC, e1]
          rfl
        obtain ⟨e, s1, hs⟩ := law_call (fr := fr) hlk (rc_sl 3 L e3 len rows.length (by omega)) (rc_nil 4)
        unfold G0 at e5
        rw [e5]
        exact ⟨e, s1, Sound.phantom (.cells true []) hs⟩
      | sl rows2 len2 =>
        simp only [Ty] at k4
        obtain ⟨q1, q2, q3⟩ := k4
        obtain ⟨B, f1, f2, f3⟩ := rows_by rows2 q3
        have e5 : absArgs [(true, [.i .u8 (Int.ofNat fr), .sl rows len, .i .u8 (Int.ofNat lk), .sl rows2 len2])] ⟨⟨G0, 3, none, []⟩, 3⟩ = ([.agg [.int .u8 (Int.ofNat fr), .slice 3 0 len rows.length, .int .u8 (Int.ofNat lk), .slice 4 0 len2 rows2.length]], ⟨⟨(4, .cells true (B.map fun n => AV.int .u8 (Int.ofNat n))) :: (3, .cells true (L.map fun n => AV.int .u8 (Int.ofNat n))) :: G0, 5, none, []⟩, 5⟩) := by
          simp only [absArgs, absCs, absC, e1, f1]
          rfl
        obtain ⟨e, s1, hs⟩ := law_call (fr := fr) hlk (rc_sl 3 L e3 len rows.length (by omega)) (rc_sl 4 B f3 len2 rows2.length (by omega))
        unfold G0 at e5
        rw [e5]
        exact ⟨e, s1, hs⟩
      | _ => simp only [Ty] at k4
    | _ => simp only [Ty] at k2
set_option maxRecDepth 100000 in
theorem contract (H : Type) (enc : TypeId × Value → H) (W : World) (base : Nat) (args : Array Value) (ds gs : List (DataW H)) (before : List MemPlace)
    (hval : ∀ (j : Nat) t v, Tryz.f3.params[j]? = some t → args[j]? = some v → Value.okWide Tryz.prog W .any base t v)
    (hW : DataW.Whole enc Tryz.prog Tryz.f3.params.toList Rows.ctlsCoverSpec.vars false W args.toList ds gs before) (hL : laidMetH Tryz.prog Rows.ctlsCoverRow.laid W) (hSh : W.ShapedOpen Tryz.prog) :
    Calls Tryz.prog 3 args W fun e W' => ∃ v, e = .returned v ∧ Rows.ctlsCoverSpec.post enc Tryz.prog Tryz.f3 false true false false W args v W' :=
  law (G := GL) (pks := jpks) (tb := 4) (by kernel_rfl) (by kernel_rfl) (by kernel_rfl) (by kernel_rfl) (by kernel_rfl) rfl (by kernel_rfl) (by kernel_rfl) (Nat.le_of_ble_eq_true (by kernel_rfl))
    (fun ds hl => by
      match ds, hl with
      | [d1], _ => rfl) j_main hval hW hL hSh

theorem ownK : ownKnob Tryz.prog.godebug = none := by kernel_rfl
def wput0 : Obj → Obj
  | .cells _ t frozen => .cells ([0,16,16,32,16,48,0,3,3,32,0,3,3,3,6,3,16,48,0,32,32,1].map (Value.int .u64)).toArray t frozen
  | o => o
def wput1 : Obj → Obj
  | .cells _ t frozen => .cells ([0,1,2,6].map (Value.int .i64)).toArray t frozen
  | o => o
def wput2 : Obj → Obj
  | .cells _ t frozen => .cells #[.int .u8 1, .bool false, .int .u8 0, .int .u8 3, .bool true, .int .u8 2, .int .u8 3, .bool false, .int .u8 3, .int .u8 2, .bool true, .int .u8 0] t frozen
  | o => o
noncomputable def laidWorld (os : Os) : World :=
  { World.holding Tryz.prog os ⟨#[], #[], []⟩ with heap := (((World.holding Tryz.prog os ⟨#[], #[], []⟩).heap.modify 0 wput0).modify 1 wput1).modify 2 wput2 }
def wargs : Array Value := #[.agg #[.int .u8 0, .slice none 0 0, .int .u8 0, .slice none 0 0]]
theorem laid_met (os : Os) : laidMet Tryz.prog Rows.ctlsCoverRow.laid ((laidWorld os).forCall (fun _ _ => 0) ⟨#[], wargs, []⟩).memory :=
  laidMet_of_run' 8 (by kernel_rfl) (by kernel_rfl)
theorem reads (os : Os) {H : Type} (enc : TypeId × Value → H) : ∃ places, DataW.whole enc Tryz.prog ((laidWorld os).forCall (fun _ _ => 0) ⟨#[], wargs, []⟩).memory Tryz.f3.params.toList Rows.ctlsCoverSpec.vars false wargs.toList 8 = some ([.agg [.lit (.int .u8 0), .nil, .lit (.int .u8 0), .nil]], [], places) :=
  ⟨[], by kernel_rfl⟩

set_option maxRecDepth 100000 in
theorem lifted (os : Os) (started : os.Started) (H : Type) (enc : TypeId × Value → H) (F : Stop.Interp) :
    ReturnsInHanded {} Tryz.checked os 3 .any ((OpenSpec.ofChange Rows.ctlsCoverSpec).preRow enc Tryz.prog Tryz.f3 Rows.ctlsCoverRow.domain false Rows.ctlsCoverRow.laid) (((OpenSpec.ofChange Rows.ctlsCoverSpec).at F).post enc Tryz.prog Tryz.f3 false true false false) := by
  obtain ⟨places, hx⟩ := reads os enc
  refine returnsInHanded_of_row (C := Tryz.checked) (s := OpenSpec.ofChange Rows.ctlsCoverSpec) ownK started (by kernel_rfl) Tryz.func3
    (witness_row_at (enc := enc) (C := Tryz.checked) false (laidWorld os) wargs rfl (by kernel_rfl) (by kernel_rfl) (by kernel_rfl)
      (OpenSpec.preRow_of_cond 8 hx (by kernel_rfl) (fun k hk => by cases hk) (by kernel_rfl) (laid_met os))) ?_
  intro W base args ds gs before hval hW _ _ _ hL hSh _
  exact contract H enc W base args ds gs before hval hW hL hSh

theorem said : Rows.CtlsCoverSaid :=
  OpenClaim.holds_of_cond 3 Tryz.f3 rfl rfl rfl rfl rfl rfl rfl ⟨rfl, rfl, rfl, rfl, rfl⟩ rfl rfl rfl rfl rfl (by kernel_rfl) Tryz.func3 (by kernel_rfl)
    (of_decide_eq_true (by kernel_rfl)) (by unfold Func.isWrapper; first | (rw [if_pos (by decide +kernel)]; kernel_rfl) | (rw [if_neg (by decide +kernel)]; exact ⟨rfl, rfl⟩))
    (fun os started H enc _ F => by rw [OpenClaim.pre_eq_preRow]; exact lifted os started H enc F)

theorem plain (f : FuncId) (fn : Func) (hf : Tryz.pinned.checked.prog.funcNamed "ragpicker/ragpickerlaw23.CtlsCover" = some f) (hfn : Tryz.pinned.checked.prog.funcs[f]? = some fn) :
    false = Tryz.pinned.checked.prog.looks [] ∧ ∀ (j : Nat) t, fn.params[j]? = some t → Tryz.pinned.checked.prog.wantsStandIn t = false := by
  obtain rfl : f = 3 := Option.some.inj ((show Tryz.prog.funcNamed "ragpicker/ragpickerlaw23.CtlsCover" = some 3 by kernel_rfl).symm.trans hf) |>.symm
  obtain rfl : fn = Tryz.f3 := (Option.some.inj (Tryz.func3.symm.trans hfn)).symm
  refine ⟨by kernel_rfl, fun j t ht => ?_⟩
  have h : (Tryz.f3.params.toList.all fun t => !Tryz.prog.wantsStandIn t) = true := by kernel_rfl
  have hm : t ∈ Tryz.f3.params.toList := by simpa using Array.mem_of_getElem? ht
  have := List.all_eq_true.1 h t hm
  exact (show Tryz.prog.wantsStandIn t = false by simpa using this)

theorem card : Rows.CtlsCoverCardSaid :=
  Claim7.holds_tied_plain_at .later [] _ _ _ _ said (fun _ h => by cases h) (by kernel_rfl) (fun _ h => by cases h) ctlsCover_row_tie rfl ⟨rfl, rfl⟩ (by kernel_rfl) rfl plain (by kernel_rfl)
end Go.Proofs.YtcnfblibfndepaaGreatDoor.ctlsCover
