/- A call that turns the memory at most once; the steps of a guard. Conditions: those that each theorem names, and no others. -/
import Derived.Test.YtcnfblibfndepaaGreatDoorCover7
namespace Go.Proofs.YtcnfblibfndepaaGreatDoor.ctlsCover
open Go Go.Mini
/-! ### a call that turns the memory at most once, run at canonical names: what it is wherever it lies -/
theorem glN : Tryz.prog.globals.size = 3 := by kernel_rfl
def kl (l : List (Nat × Nat)) (b : Nat) : Nat := match l with
  | [] => b
  | (x, y) :: t => bif Nat.beq x b then y else kl t b
def nodB : List Nat → Bool
  | [] => true
  | x :: l => !(l.any fun y => Nat.beq x y) && nodB l
def inB (l : List Nat) (b : Nat) : Bool := l.any fun y => Nat.beq y b
structure GD where
  f : FuncId
  args : List AV
  C : List (Nat × AObj)
  C' : List (Nat × AObj)
  kl : List (Nat × Nat)
  new : List Nat
  w : AV
  decs : List Dec
  mq : Option (FuncId × List AV × AV × (AS → AS))
  qs : List Qst
def qS : List Qst → AS
  | .snd (.call _ _ s) _ :: _ => s
  | _ => ⟨⟨[], 0, none, []⟩, 0⟩
def oldB (s : AS) (new : List Nat) (b : Nat) : Bool := ((objAt s b).rw || (match objAt s b with | .dead => true | _ => false)) && (objAt s b).names (pN 20 new)
def newB2 (s : AS) (new : List Nat) (b : Nat) : Bool := (objAt s b).rw && (objAt s b).names (pN 20 new)
noncomputable def GD.run (g : GD) (O7 O8 : AObj) : Option (Res × List Dec × List Qst) := runX Tryz.prog none_ 80 g.f (.call g.f g.args (canF ((7, O7) :: (8, O8) :: g.C) GF (g.C.length + 5) 20)) g.decs
abbrev LK : Type := List AV × (Option AObj × Option AObj) × List (Option AObj) × Bool × List Qst × (Option AObj × Option AObj)
def GD.lk (g : GD) (x : Res × List Dec × List Qst) : LK := (x.1.ts, (x.1.s.get 7, x.1.s.get 8), g.C'.map (fun y => x.1.s.get (Go.Proofs.YtcnfblibfndepaaGreatDoor.ctlsCover.kl g.kl y.1)), (g.C.all (fun y => oldB x.1.s g.new y.1) && g.new.all (newB2 x.1.s g.new)), x.2.2, match g.mq with
  | some _ => ((qS x.2.2).get 7, (qS x.2.2).get 8)
  | none => (none, none))
def GD.want (g : GD) (O7 O8 P7 P8 : AObj) (x : Res × List Dec × List Qst) : LK := ([g.w], (some P7, some P8), g.C'.map (fun y => some (y.2.ren (Go.Proofs.YtcnfblibfndepaaGreatDoor.ctlsCover.kl g.kl))), true, (match g.mq with
  | some (mf, ma, mv, tf) => .snd (.call mf ma (qS x.2.2)) ⟨.ret, [mv], tf (qS x.2.2)⟩ :: g.qs
  | none => g.qs), match g.mq with
  | some _ => (some O7, some O8)
  | none => (none, none))
noncomputable def GD.L (g : GD) (O7 O8 : AObj) : Option LK := match g.run O7 O8 with
  | some x => some (g.lk x)
  | none => none
noncomputable def GD.R (g : GD) (O7 O8 P7 P8 : AObj) : Option LK := match g.run O7 O8 with
  | some x => some (g.want O7 O8 P7 P8 x)
  | none => some ([], (none, none), [], true, [], (none, none))
def GD.stat (g : GD) : Bool := g.C.all (fun y => Nat.ble 9 y.1 && (Nat.blt y.1 20 && (y.2.rw && y.2.names (fun c => Nat.blt c 20)))) && (nodB (g.C.map (·.1)) && (nodB g.new && (g.new.all (Nat.ble 20) &&
  (g.C'.all (fun y => Nat.ble 9 y.1 && (inB (g.C.map (·.1)) (Go.Proofs.YtcnfblibfndepaaGreatDoor.ctlsCover.kl g.kl y.1) || inB g.new (Go.Proofs.YtcnfblibfndepaaGreatDoor.ctlsCover.kl g.kl y.1))) &&
  ((g.C'.map (·.1)).all (fun b => (g.C'.map (·.1)).all fun c => !Nat.beq (Go.Proofs.YtcnfblibfndepaaGreatDoor.ctlsCover.kl g.kl b) (Go.Proofs.YtcnfblibfndepaaGreatDoor.ctlsCover.kl g.kl c) || Nat.beq b c) && (g.kl.all (fun x => Nat.ble 9 x.1) && (namess (fun c => Nat.blt c 20) g.args && g.w.names (pN 20 g.new))))))))
theorem inB_iff {l : List Nat} {b : Nat} : inB l b = true ↔ b ∈ l := by
  unfold inB
  rw [List.any_eq_true]
  exact ⟨fun ⟨y, hy, e⟩ => Nat.eq_of_beq_eq_true e ▸ hy, fun h => ⟨b, h, Nat.beq_refl b⟩⟩
theorem nodB_ok : ∀ {l : List Nat}, nodB l = true → l.Nodup
  | [], _ => List.nodup_nil
  | x :: l, h => by
    simp only [nodB, Bool.and_eq_true, Bool.not_eq_true'] at h
    refine List.nodup_cons.2 ⟨fun hm => ?_, nodB_ok h.2⟩
    have : (l.any fun y => Nat.beq x y) = true := List.any_eq_true.2 ⟨x, hm, Nat.beq_refl x⟩
    rw [h.1] at this
    cases this
theorem kl_low : ∀ {l : List (Nat × Nat)} {b : Nat}, l.all (fun x => Nat.ble 9 x.1) = true → b < 9 → kl l b = b
  | [], _, _, _ => rfl
  | (x, y) :: t, b, h, hb => by
    simp only [List.all_cons, Bool.and_eq_true] at h
    show (bif Nat.beq x b then y else kl t b) = b
    have h1 := Nat.le_of_ble_eq_true h.1
    rw [show Nat.beq x b = false from by cases e : Nat.beq x b <;> first | rfl | (have := Nat.eq_of_beq_eq_true e; omega)]
    exact kl_low h.2 hb
theorem getB_of : ∀ {bs : List (Nat × AObj)}, (bs.map (·.1)).Nodup → ∀ x ∈ bs, getB bs x.1 = some x.2
  | y :: t, hn, x, hx => by
    simp only [List.map_cons, List.nodup_cons] at hn
    show (if Nat.beq y.1 x.1 then some y.2 else getB t x.1) = _
    rcases List.mem_cons.1 hx with rfl | hx
    · rw [if_pos (Nat.beq_refl _)]
    · rw [if_neg fun e => hn.1 (List.mem_map.2 ⟨x, hx, (Nat.eq_of_beq_eq_true e).symm⟩)]
      exact getB_of hn.2 x hx
def memP (M : PM) : List (Nat × AObj) := [(7, .cells false (M.C (.map 8))), (8, mapO M.ms)]
theorem gz : ∀ x ∈ GF, x.1 < 3 ∧ namess (fun _ => false) x.2 = true := fun x hx => by
  simp only [GF, List.mem_cons, List.not_mem_nil, or_false] at hx
  rcases hx with rfl | rfl | rfl <;> exact ⟨by decide, rfl⟩
theorem g_step {g : GD} {M M2 : PM} {v : AV} (h : g.L (.cells false (M.C (.map 8))) (mapO M.ms) = g.R (.cells false (M.C (.map 8))) (mapO M.ms) (.cells false (M2.C (.map 8))) (mapO M2.ms))
    (hm : ∀ s0 : AS, s0.get 7 = some (.cells false (M.C (.map 8))) → s0.get 8 = some (mapO M.ms) → match g.mq with
      | some (mf, ma, mv, tf) => Sound Tryz.prog (.call mf ma s0) ⟨.ret, [mv], tf s0⟩
      | none => True) (hq : Qsts Tryz.prog g.qs) (hs : g.stat = true) (hw : g.w = v.ren (kl g.kl)) :
    StepF Tryz.prog GF 20 g.f g.args v (memP M ++ g.C) (memP M2 ++ g.C') (kl g.kl) := by
  simp only [GD.stat, Bool.and_eq_true] at hs
  obtain ⟨a1, a2, a3, a4, a5, a6, a7, a8, a9⟩ := hs
  unfold GD.L GD.R at h
  cases hr : g.run (.cells false (M.C (.map 8))) (mapO M.ms) with
  | none => rw [hr] at h; cases h
  | some x =>
    rw [hr] at h
    obtain ⟨⟨e, ts, s1⟩, ds', q'⟩ := x
    simp only [Option.some.injEq, GD.lk, GD.want, Prod.mk.injEq, Bool.and_eq_true] at h
    obtain ⟨h1, ⟨h7, h8⟩, h2, ⟨h3, h4⟩, h5, h6⟩ := h
    have hQ : Qsts Tryz.prog q' := by
      cases hmq : g.mq with
      | none =>
        rw [hmq] at h5
        rw [h5]
        exact hq
      | some t =>
        obtain ⟨mf, ma, mv, tf⟩ := t
        rw [hmq] at h5 h6
        simp only [Prod.mk.injEq] at h5 h6
        have := hm (qS q') h6.1 h6.2
        rw [hmq] at this
        rw [h5]
        exact ⟨this, hq⟩
    subst h1
    have hrun := runX_sound mixed none_sound hr hQ
    have b1 : ∀ y ∈ g.C, 9 ≤ y.1 ∧ y.1 < 20 ∧ y.2.rw = true ∧ y.2.names (fun c => Nat.blt c 20) = true := fun y hy => by
      have := List.all_eq_true.1 a1 y hy
      simp only [Bool.and_eq_true] at this
      exact ⟨Nat.le_of_ble_eq_true this.1, Nat.blt_eq ▸ this.2.1, this.2.2.1, this.2.2.2⟩
    have b4 : ∀ b ∈ g.new, 20 ≤ b := fun b hb => Nat.le_of_ble_eq_true (List.all_eq_true.1 a4 b hb)
    have b5 : ∀ y ∈ g.C', 9 ≤ y.1 ∧ (kl g.kl y.1 ∈ g.C.map (·.1) ∨ kl g.kl y.1 ∈ g.new) := fun y hy => by
      have := List.all_eq_true.1 a5 y hy
      simp only [Bool.and_eq_true, Bool.or_eq_true] at this
      exact ⟨Nat.le_of_ble_eq_true this.1, this.2.imp inB_iff.1 inB_iff.1⟩
    have lows : ∀ b, b < 9 → kl g.kl b = b := fun b hb => kl_low a7 hb
    have nd : ((memP M ++ g.C).map (·.1)).Nodup := by
      show (7 :: 8 :: g.C.map (·.1)).Nodup
      refine List.nodup_cons.2 ⟨fun hm => ?_, List.nodup_cons.2 ⟨fun hm => ?_, nodB_ok a2⟩⟩
      · rcases List.mem_cons.1 hm with e | hm
        · cases e
        · obtain ⟨y, hy, e⟩ := List.mem_map.1 hm
          have := b1 y hy
          omega
      · obtain ⟨y, hy, e⟩ := List.mem_map.1 hm
        have := b1 y hy
        omega
    have o7 : objAt s1 7 = .cells false (M2.C (.map 8)) := by simp [objAt, h7]
    have o8 : objAt s1 8 = mapO M2.ms := by simp [objAt, h8]
    refine step_mk (n0 := g.C.length + 5) hrun g.new ⟨by rw [glN]; decide, eachX_all fun x hx => ?_, nd, fun x hx => ?_⟩ (nodB_ok a3) (fun b hb => ?_) (fun c hc => lows c (by rw [glN] at hc; omega)) (fun x hx => lows x.1 (by have := (gz x hx).1; omega)) (eachX_all fun x hx => ?_) (fun b hb c hc e => ?_) a8 (eachX_all fun x hx => ?_) a9 hw
    · have hg := getB_of nd x hx
      rcases List.mem_append.1 hx with h | h
      · simp only [memP, List.mem_cons, List.not_mem_nil, or_false] at h
        rcases h with rfl | rfl
        · exact ⟨show 7 < 20 by decide, rfl, rfl, hg⟩
        · exact ⟨show 8 < 20 by decide, rfl, mapO_names _ _, hg⟩
      · obtain ⟨_, c2, c3, c4⟩ := b1 x h
        exact ⟨c2, c3, c4, hg⟩
    · refine ⟨by have := (gz x hx).1; omega, fun hm => ?_, (gz x hx).2⟩
      obtain ⟨y, hy, e⟩ := List.mem_map.1 hm
      have h3 := (gz x hx).1
      rcases List.mem_append.1 hy with h | h
      · simp only [memP, List.mem_cons, List.not_mem_nil, or_false] at h
        rcases h with rfl | rfl
        · have e : 7 = x.1 := e
          omega
        · have e : 8 = x.1 := e
          omega
      · have := b1 y h
        omega
    · have := List.all_eq_true.1 h4 b hb
      simp only [newB2, Bool.and_eq_true] at this
      exact ⟨b4 b hb, this.1, this.2⟩
    · rcases List.mem_append.1 hx with h | h
      · simp only [memP, List.mem_cons, List.not_mem_nil, or_false] at h
        rcases h with rfl | rfl
        · rw [lows 7 (by decide)]
          exact ⟨.inl (by simp [memP]), by rw [h7]; show _ = some (AObj.cells false (M2.C (.map (kl g.kl 8)))); rw [lows 8 (by decide)]⟩
        · rw [lows 8 (by decide), mapO_ren]
          exact ⟨.inl (by simp [memP]), h8⟩
      · refine ⟨(b5 x h).2.imp (fun h => ?_) id, ?_⟩
        · rw [List.map_append]
          exact List.mem_append.2 (.inr h)
        · exact List.map_inj_left.1 h2 x h
    · have k9 : ∀ y ∈ g.C', 9 ≤ kl g.kl y.1 := fun y hy => by
        rcases (b5 y hy).2 with h | h
        · obtain ⟨z, hz, e⟩ := List.mem_map.1 h
          have := (b1 z hz).1
          omega
        · have := b4 _ h
          omega
      obtain ⟨y, hy, rfl⟩ := List.mem_map.1 hb
      obtain ⟨z, hz, rfl⟩ := List.mem_map.1 hc
      have lo : ∀ y ∈ memP M2, y.1 < 9 := fun y hy => by
        simp only [memP, List.mem_cons, List.not_mem_nil, or_false] at hy
        rcases hy with rfl | rfl
        · show 7 < 9; decide
        · show 8 < 9; decide
      rcases List.mem_append.1 hy with hy | hy <;> rcases List.mem_append.1 hz with hz | hz
      · rw [lows _ (lo y hy), lows _ (lo z hz)] at e
        exact e
      · rw [lows _ (lo y hy)] at e
        have := lo y hy
        have := k9 z hz
        omega
      · rw [lows _ (lo z hz)] at e
        have := lo z hz
        have := k9 y hy
        omega
      · have := List.all_eq_true.1 (List.all_eq_true.1 a6 y.1 (List.mem_map.2 ⟨y, hy, rfl⟩)) z.1 (List.mem_map.2 ⟨z, hz, rfl⟩)
        simp only [Bool.or_eq_true, Bool.not_eq_true'] at this
        rcases this with h | h
        · rw [e, Nat.beq_refl] at h
          cases h
        · exact Nat.eq_of_beq_eq_true h
    · rcases List.mem_append.1 hx with h | h
      · simp only [memP, List.mem_cons, List.not_mem_nil, or_false] at h
        rcases h with rfl | rfl
        · show ((objAt s1 7).rw = true ∨ _) ∧ _
          rw [o7]
          exact ⟨.inl rfl, rfl⟩
        · show ((objAt s1 8).rw = true ∨ _) ∧ _
          rw [o8]
          exact ⟨.inl rfl, mapO_names _ _⟩
      · have := List.all_eq_true.1 h3 x h
        simp only [oldB, Bool.and_eq_true, Bool.or_eq_true] at this
        refine ⟨this.1.imp id fun h => ?_, this.2⟩
        split at h
        · assumption
        · cases h
end Go.Proofs.YtcnfblibfndepaaGreatDoor.ctlsCover
namespace Go.Proofs.YtcnfblibfndepaaGreatDoor.ctlsCover
open Go Go.Mini
/-! ### a guard's Enter and Exit: what their blocks hold -/
def i64 (x : Int) : AV := .int .i64 x
def u64 (x : Nat) : AV := .int .u64 (Int.ofNat x)
def gO (th : Nat) (i : Bool) (md hi : Nat) : AObj := .cells false [.bool i, .int .u8 (Int.ofNat md), u64 hi, u64 0, u64 0, u64 0, .bool true, i64 (Int.ofNat th), .ptr 11 0]
def sto (th : Nat) (f : Int) (v : Nat) : AV := .iface 111 (.agg [.int .u8 8, i64 (Int.ofNat th), i64 f, u64 v])
def lkI : AV := .iface 116 (.agg [.ptr 12 0])
def epI : AV := .iface 190 (.ptr 14 0)
def erI : AV := .iface 112 (.ptr 16 0)
def xepI : AV := .iface 103 (.ptr 14 0)
def clI : AV := .iface 105 (.ptr 15 0)
def xerI : AV := .iface 107 (.ptr 16 0)
def enO (p er : AV) : AObj := .cells false [p, .ptr 10 0, er]
def exO (p : AV) : AObj := .cells false [p, .ptr 10 0]
def epO (th at_ : Nat) : AObj := .cells false [i64 (Int.ofNat at_), u64 0, i64 (Int.ofNat th)]
def erO (th left hi : Nat) : AObj := .cells false [i64 (Int.ofNat left), i64 (Int.ofNat th), u64 hi]
def clO (th left : Nat) : AObj := .cells false [i64 (Int.ofNat th), i64 (Int.ofNat left)]
def xeO (th left : Nat) : AObj := .cells false [i64 (Int.ofNat left), i64 (Int.ofNat th)]
/-- The blocks of a guard whose thread is in a state, by its mode. -/
def stB (th nm : Nat) : Nat → Nat → List (Nat × AObj)
  | _, 0 => [(10, gO th false 0 0)]
  | _, 17 => [(10, gO th false 0 0), (12, enO (.slice 13 0 2 2) .nilPtr), (13, .cells false [sto th 1 1, lkI])]
  | _, 1 => [(10, gO th false 0 0), (12, enO (.slice 13 1 1 1) .nilPtr), (13, .cells false [sto th 1 1, lkI])]
  | 1, 2 => [(10, gO th false 1 0), (12, enO (.osl 13 1 2 1) .nilPtr), (13, (.cells false [lkI, (sto th 2 nm), epI])), (14, epO th 1)]
  | 1, 3 => [(10, gO th false 1 0), (12, enO (.osl 13 2 1 1) .nilPtr), (13, (.cells false [lkI, (sto th 2 nm), epI])), (14, epO th 1)]
  | 1, 4 => [(10, gO th false 1 0), (12, enO (.osl 13 2 1 1) .nilPtr), (13, (.cells false [lkI, (sto th 2 nm), epI])), (14, epO th 4)]
  | 1, 8 => [(10, gO th true 1 0)]
  | 1, 15 => [(10, gO th true 1 0), (12, exO (.osl 13 1 2 1)), (13, (.cells false [xepI, (sto th 6 0), (sto th 1 0)]))]
  | 1, 16 => [(10, gO th true 1 0), (12, exO (.osl 13 2 1 1)), (13, (.cells false [xepI, (sto th 6 0), (sto th 1 0)]))]
  | 1, 18 => [(10, gO th true 1 0), (12, exO (.osl 13 0 3 1)), (13, (.cells false [xepI, (sto th 6 0), (sto th 1 0)])), (14, epO th 1)]
  | 2, 2 => [(10, gO th false 2 0), (12, enO (.osl 13 1 1 1) .nilPtr), (13, (.cells false [lkI, (sto th 2 nm)]))]
  | 2, 8 => [(10, gO th true 2 0)]
  | 2, 11 => [(10, gO th true 2 0), (12, exO (.osl 13 0 3 1)), (13, (.cells false [clI, (sto th 6 0), (sto th 1 0)])), (15, clO th 2)]
  | 2, 12 => [(10, gO th true 2 0), (12, exO (.osl 13 0 3 1)), (13, (.cells false [clI, (sto th 6 0), (sto th 1 0)])), (15, clO th 1)]
  | 2, 15 => [(10, gO th true 2 0), (12, exO (.osl 13 1 2 1)), (13, (.cells false [clI, (sto th 6 0), (sto th 1 0)]))]
  | 2, 16 => [(10, gO th true 2 0), (12, exO (.osl 13 2 1 1)), (13, (.cells false [clI, (sto th 6 0), (sto th 1 0)]))]
  | 2, 18 => [(10, gO th true 2 0), (12, exO (.osl 13 0 3 1)), (13, (.cells false [clI, (sto th 6 0), (sto th 1 0)])), (15, clO th 3)]
  | 4, 2 => [(10, gO th false 4 0), (12, enO (.osl 13 1 2 1) (.ptr 16 0)), (13, (.cells false [lkI, (sto th 2 nm), erI])), (16, erO th 3 0)]
  | 4, 5 => [(10, gO th false 4 0), (12, enO (.osl 13 2 1 1) (.ptr 16 0)), (13, (.cells false [lkI, (sto th 2 nm), erI])), (16, erO th 3 0)]
  | 4, 6 => [(10, gO th false 4 0), (12, enO (.osl 13 2 1 1) (.ptr 16 0)), (13, (.cells false [lkI, (sto th 2 nm), erI])), (16, erO th 2 1)]
  | 4, 7 => [(10, gO th false 4 0), (12, enO (.osl 13 2 1 1) (.ptr 16 0)), (13, (.cells false [lkI, (sto th 2 nm), erI])), (16, erO th 1 1)]
  | 4, 8 => [(10, gO th true 4 1)]
  | 4, 14 => [(10, gO th true 4 1), (12, exO (.osl 13 0 3 1)), (13, (.cells false [xerI, (sto th 6 0), (sto th 1 0)])), (16, xeO th 1)]
  | 4, 15 => [(10, gO th true 4 1), (12, exO (.osl 13 1 2 1)), (13, (.cells false [xerI, (sto th 6 0), (sto th 1 0)]))]
  | 4, 16 => [(10, gO th true 4 1), (12, exO (.osl 13 2 1 1)), (13, (.cells false [xerI, (sto th 6 0), (sto th 1 0)]))]
  | 4, 18 => [(10, gO th true 4 1), (12, exO (.osl 13 0 3 1)), (13, (.cells false [xerI, (sto th 6 0), (sto th 1 0)])), (16, xeO th 2)]
  | 3, 2 => [(10, gO th false 3 0), (12, enO (.osl 13 1 2 1) .nilPtr), (13, (.cells false [lkI, (sto th 2 nm), epI])), (14, epO th 1)]
  | 3, 3 => [(10, gO th false 3 0), (12, enO (.osl 13 2 1 1) .nilPtr), (13, (.cells false [lkI, (sto th 2 nm), epI])), (14, epO th 1)]
  | 3, 4 => [(10, gO th false 3 0), (12, enO (.osl 13 2 1 1) .nilPtr), (13, (.cells false [lkI, (sto th 2 nm), epI])), (14, epO th 4)]
  | 3, 8 => [(10, gO th true 3 0)]
  | 3, 10 => [(10, gO th true 3 0), (12, exO (.osl 13 1 3 1)), (13, (.cells false [xepI, clI, (sto th 6 0), (sto th 1 0)])), (15, clO th 3)]
  | 3, 11 => [(10, gO th true 3 0), (12, exO (.osl 13 1 3 1)), (13, (.cells false [xepI, clI, (sto th 6 0), (sto th 1 0)])), (15, clO th 2)]
  | 3, 12 => [(10, gO th true 3 0), (12, exO (.osl 13 1 3 1)), (13, (.cells false [xepI, clI, (sto th 6 0), (sto th 1 0)])), (15, clO th 1)]
  | 3, 15 => [(10, gO th true 3 0), (12, exO (.osl 13 2 2 1)), (13, (.cells false [xepI, clI, (sto th 6 0), (sto th 1 0)]))]
  | 3, 16 => [(10, gO th true 3 0), (12, exO (.osl 13 3 1 1)), (13, (.cells false [xepI, clI, (sto th 6 0), (sto th 1 0)]))]
  | 3, 18 => [(10, gO th true 3 0), (12, exO (.osl 13 0 4 1)), (13, (.cells false [xepI, clI, (sto th 6 0), (sto th 1 0)])), (14, epO th 1), (15, clO th 3)]
  | 5, 2 => [(10, gO th false 5 0), (12, enO (.osl 13 1 3 1) (.ptr 16 0)), (13, (.cells false [lkI, (sto th 2 nm), epI, erI])), (14, epO th 1), (16, erO th 3 0)]
  | 5, 3 => [(10, gO th false 5 0), (12, enO (.osl 13 2 2 1) (.ptr 16 0)), (13, (.cells false [lkI, (sto th 2 nm), epI, erI])), (14, epO th 1), (16, erO th 3 0)]
  | 5, 4 => [(10, gO th false 5 0), (12, enO (.osl 13 2 2 1) (.ptr 16 0)), (13, (.cells false [lkI, (sto th 2 nm), epI, erI])), (14, epO th 4), (16, erO th 3 0)]
  | 5, 5 => [(10, gO th false 5 0), (12, enO (.osl 13 3 1 1) (.ptr 16 0)), (13, (.cells false [lkI, (sto th 2 nm), epI, erI])), (16, erO th 3 0)]
  | 5, 6 => [(10, gO th false 5 0), (12, enO (.osl 13 3 1 1) (.ptr 16 0)), (13, (.cells false [lkI, (sto th 2 nm), epI, erI])), (16, erO th 2 1)]
  | 5, 7 => [(10, gO th false 5 0), (12, enO (.osl 13 3 1 1) (.ptr 16 0)), (13, (.cells false [lkI, (sto th 2 nm), epI, erI])), (16, erO th 1 1)]
  | 5, 8 => [(10, gO th true 5 1)]
  | 5, 13 => [(10, gO th true 5 1), (12, exO (.osl 13 1 3 1)), (13, (.cells false [xepI, xerI, (sto th 6 0), (sto th 1 0)])), (16, xeO th 2)]
  | 5, 14 => [(10, gO th true 5 1), (12, exO (.osl 13 1 3 1)), (13, (.cells false [xepI, xerI, (sto th 6 0), (sto th 1 0)])), (16, xeO th 1)]
  | 5, 15 => [(10, gO th true 5 1), (12, exO (.osl 13 2 2 1)), (13, (.cells false [xepI, xerI, (sto th 6 0), (sto th 1 0)]))]
  | 5, 16 => [(10, gO th true 5 1), (12, exO (.osl 13 3 1 1)), (13, (.cells false [xepI, xerI, (sto th 6 0), (sto th 1 0)]))]
  | 5, 18 => [(10, gO th true 5 1), (12, exO (.osl 13 0 4 1)), (13, (.cells false [xepI, xerI, (sto th 6 0), (sto th 1 0)])), (14, epO th 1), (16, xeO th 2)]
  | 6, 2 => [(10, gO th false 6 0), (12, enO (.osl 13 1 2 1) (.ptr 16 0)), (13, (.cells false [lkI, (sto th 2 nm), erI])), (16, erO th 3 0)]
  | 6, 5 => [(10, gO th false 6 0), (12, enO (.osl 13 2 1 1) (.ptr 16 0)), (13, (.cells false [lkI, (sto th 2 nm), erI])), (16, erO th 3 0)]
  | 6, 6 => [(10, gO th false 6 0), (12, enO (.osl 13 2 1 1) (.ptr 16 0)), (13, (.cells false [lkI, (sto th 2 nm), erI])), (16, erO th 2 1)]
  | 6, 7 => [(10, gO th false 6 0), (12, enO (.osl 13 2 1 1) (.ptr 16 0)), (13, (.cells false [lkI, (sto th 2 nm), erI])), (16, erO th 1 1)]
  | 6, 8 => [(10, gO th true 6 1)]
  | 6, 11 => [(10, gO th true 6 1), (12, exO (.osl 13 0 4 1)), (13, (.cells false [clI, xerI, (sto th 6 0), (sto th 1 0)])), (15, clO th 2), (16, xeO th 2)]
  | 6, 12 => [(10, gO th true 6 1), (12, exO (.osl 13 0 4 1)), (13, (.cells false [clI, xerI, (sto th 6 0), (sto th 1 0)])), (15, clO th 1), (16, xeO th 2)]
  | 6, 13 => [(10, gO th true 6 1), (12, exO (.osl 13 1 3 1)), (13, (.cells false [clI, xerI, (sto th 6 0), (sto th 1 0)])), (16, xeO th 2)]
  | 6, 14 => [(10, gO th true 6 1), (12, exO (.osl 13 1 3 1)), (13, (.cells false [clI, xerI, (sto th 6 0), (sto th 1 0)])), (16, xeO th 1)]
  | 6, 15 => [(10, gO th true 6 1), (12, exO (.osl 13 2 2 1)), (13, (.cells false [clI, xerI, (sto th 6 0), (sto th 1 0)]))]
  | 6, 16 => [(10, gO th true 6 1), (12, exO (.osl 13 3 1 1)), (13, (.cells false [clI, xerI, (sto th 6 0), (sto th 1 0)]))]
  | 6, 18 => [(10, gO th true 6 1), (12, exO (.osl 13 0 4 1)), (13, (.cells false [clI, xerI, (sto th 6 0), (sto th 1 0)])), (15, clO th 3), (16, xeO th 2)]
  | _, _ => []
def tfS (M2 : PM) (O2 : AObj) (s : AS) : AS := (s.set 7 (.cells false (M2.C (.map 8)))).set 8 O2
def tfL (M2 : PM) (s : AS) : AS := s.set 7 (.cells false (M2.C (.map 8)))
def sT (st : Nat) : Nat := if st = 17 then 0 else if st = 18 then 8 else st
def nB (m st : Nat) : Nat := if st = 17 then 1 else TS.nx ⟨sT st, m, 0⟩
def fS (st : Nat) : FuncId := if st = 17 ∨ st ≤ 7 then 25 else 26
def dnB (m st : Nat) : Bool := Nat.beq (nB m st) 0 || Nat.beq (nB m st) 8
def siteD (M2 : PM) (O2 : AObj) (m st : Nat) : Dec :=
  if [(1, 17), (1, 2), (1, 15), (1, 16), (2, 2), (2, 15), (2, 16), (4, 2), (4, 15), (4, 16), (3, 2), (3, 15), (3, 16), (5, 2), (5, 15), (5, 16), (6, 2), (6, 15), (6, 16)].contains (m, st) then .call 115 1 5 undefA (tfS M2 O2) else
  if [(1, 3), (3, 3), (5, 3)].contains (m, st) then .call 125 5 4 (u64 0) (tfL M2) else
  if [(1, 4), (3, 4), (5, 4)].contains (m, st) then .call 125 1 12 undefA (tfS M2 O2) else
  if [(1, 18), (3, 18), (5, 18)].contains (m, st) then .call 106 2 6 undefA (tfS M2 O2) else
  if [(2, 11), (2, 12), (2, 18), (3, 10), (3, 11), (3, 12), (6, 11), (6, 12), (6, 18)].contains (m, st) then .call 110 2 11 undefA (tfS M2 O2) else
  if [(4, 5), (5, 5), (6, 5)].contains (m, st) then .call 116 7 3 (u64 0) (tfL M2) else
  if [(4, 6), (4, 7), (5, 6), (5, 7), (6, 6), (6, 7)].contains (m, st) then .call 116 9 11 undefA (tfS M2 O2) else
  .call 113 2 11 undefA (tfS M2 O2)
def mqD (th nm : Nat) (M2 : PM) (O2 : AObj) (m st : Nat) : FuncId × List AV × AV × (AS → AS) :=
  if st = 3 then (28, [.ptr 7 0, .agg (ak aEp)], .int .u64 (Int.ofNat 0), tfL M2) else
  if st = 5 then (28, [.ptr 7 0, .agg (ak aEra)], .int .u64 (Int.ofNat 0), tfL M2) else
  (7, [.ptr 7 0, .agg (ak (aT th (TS.fld ⟨sT st, m, nm⟩))), .int .u64 (Int.ofNat (TS.val ⟨sT st, m, nm⟩))], undefA, tfS M2 O2)
def gd1 (th nm : Nat) (M2 : PM) (O2 : AObj) (p : Nat × Nat) : GD := ⟨fS p.2, [.ptr 12 0, .ptr 7 0], stB th nm p.1 p.2, stB th nm p.1 (nB p.1 p.2), [], [], .bool (dnB p.1 p.2), [siteD M2 O2 p.1 p.2], some (mqD th nm M2 O2 p.1 p.2), []⟩
def tab1 : List (Nat × Nat) := [(1, 17), (1, 2), (1, 4), (1, 15), (1, 16), (1, 18), (2, 2), (2, 11), (2, 12), (2, 15), (2, 16), (2, 18), (4, 2), (4, 6), (4, 7), (4, 14), (4, 15), (4, 16), (4, 18), (3, 2), (3, 4), (3, 10), (3, 11), (3, 12), (3, 15), (3, 16), (3, 18), (5, 2), (5, 4), (5, 6), (5, 7), (5, 13), (5, 14), (5, 15), (5, 16), (5, 18), (6, 2), (6, 6), (6, 7), (6, 11), (6, 12), (6, 13), (6, 14), (6, 15), (6, 16), (6, 18)]
def GdOk (g : GD) (M M2 : PM) (O O2 : AObj) : Prop := g.L (.cells false (M.C (.map 8))) O = g.R (.cells false (M.C (.map 8))) O (.cells false (M2.C (.map 8))) O2 ∧ g.stat = true
theorem fc {α : Type} {p : α → Prop} {a : α} {l : List α} (h : p a) (h2 : ∀ x ∈ l, p x) : ∀ x ∈ a :: l, p x := fun x hx => by
  rcases List.mem_cons.1 hx with rfl | hx
  · exact h
  · exact h2 x hx
theorem fn {α : Type} {p : α → Prop} : ∀ x ∈ ([] : List α), p x := fun x hx => by cases hx
def tabL : List (Nat × Nat) := [(1, 3), (4, 5), (3, 3), (5, 3), (5, 5), (6, 5)]
theorem q_1_17 (th nm : Nat) (M M2 : PM) (O O2 : AObj) : GdOk (gd1 th nm M2 O2 (1, 17)) M M2 O O2 := ⟨by kernel_rfl, by kernel_rfl⟩
theorem q_1_2 (th nm : Nat) (M M2 : PM) (O O2 : AObj) : GdOk (gd1 th nm M2 O2 (1, 2)) M M2 O O2 := ⟨by kernel_rfl, by kernel_rfl⟩
theorem q_1_4 (th nm : Nat) (M M2 : PM) (O O2 : AObj) : GdOk (gd1 th nm M2 O2 (1, 4)) M M2 O O2 := ⟨by kernel_rfl, by kernel_rfl⟩
theorem q_1_15 (th nm : Nat) (M M2 : PM) (O O2 : AObj) : GdOk (gd1 th nm M2 O2 (1, 15)) M M2 O O2 := ⟨by kernel_rfl, by kernel_rfl⟩
theorem q_1_16 (th nm : Nat) (M M2 : PM) (O O2 : AObj) : GdOk (gd1 th nm M2 O2 (1, 16)) M M2 O O2 := ⟨by kernel_rfl, by kernel_rfl⟩
theorem q_1_18 (th nm : Nat) (M M2 : PM) (O O2 : AObj) : GdOk (gd1 th nm M2 O2 (1, 18)) M M2 O O2 := ⟨by kernel_rfl, by kernel_rfl⟩
theorem q_2_2 (th nm : Nat) (M M2 : PM) (O O2 : AObj) : GdOk (gd1 th nm M2 O2 (2, 2)) M M2 O O2 := ⟨by kernel_rfl, by kernel_rfl⟩
theorem q_2_11 (th nm : Nat) (M M2 : PM) (O O2 : AObj) : GdOk (gd1 th nm M2 O2 (2, 11)) M M2 O O2 := ⟨by kernel_rfl, by kernel_rfl⟩
theorem q_2_12 (th nm : Nat) (M M2 : PM) (O O2 : AObj) : GdOk (gd1 th nm M2 O2 (2, 12)) M M2 O O2 := ⟨by kernel_rfl, by kernel_rfl⟩
theorem q_2_15 (th nm : Nat) (M M2 : PM) (O O2 : AObj) : GdOk (gd1 th nm M2 O2 (2, 15)) M M2 O O2 := ⟨by kernel_rfl, by kernel_rfl⟩
theorem q_2_16 (th nm : Nat) (M M2 : PM) (O O2 : AObj) : GdOk (gd1 th nm M2 O2 (2, 16)) M M2 O O2 := ⟨by kernel_rfl, by kernel_rfl⟩
theorem q_2_18 (th nm : Nat) (M M2 : PM) (O O2 : AObj) : GdOk (gd1 th nm M2 O2 (2, 18)) M M2 O O2 := ⟨by kernel_rfl, by kernel_rfl⟩
theorem q_4_2 (th nm : Nat) (M M2 : PM) (O O2 : AObj) : GdOk (gd1 th nm M2 O2 (4, 2)) M M2 O O2 := ⟨by kernel_rfl, by kernel_rfl⟩
theorem q_4_6 (th nm : Nat) (M M2 : PM) (O O2 : AObj) : GdOk (gd1 th nm M2 O2 (4, 6)) M M2 O O2 := ⟨by kernel_rfl, by kernel_rfl⟩
theorem q_4_7 (th nm : Nat) (M M2 : PM) (O O2 : AObj) : GdOk (gd1 th nm M2 O2 (4, 7)) M M2 O O2 := ⟨by kernel_rfl, by kernel_rfl⟩
theorem q_4_14 (th nm : Nat) (M M2 : PM) (O O2 : AObj) : GdOk (gd1 th nm M2 O2 (4, 14)) M M2 O O2 := ⟨by kernel_rfl, by kernel_rfl⟩
theorem q_4_15 (th nm : Nat) (M M2 : PM) (O O2 : AObj) : GdOk (gd1 th nm M2 O2 (4, 15)) M M2 O O2 := ⟨by kernel_rfl, by kernel_rfl⟩
theorem q_4_16 (th nm : Nat) (M M2 : PM) (O O2 : AObj) : GdOk (gd1 th nm M2 O2 (4, 16)) M M2 O O2 := ⟨by kernel_rfl, by kernel_rfl⟩
theorem q_4_18 (th nm : Nat) (M M2 : PM) (O O2 : AObj) : GdOk (gd1 th nm M2 O2 (4, 18)) M M2 O O2 := ⟨by kernel_rfl, by kernel_rfl⟩
theorem q_3_2 (th nm : Nat) (M M2 : PM) (O O2 : AObj) : GdOk (gd1 th nm M2 O2 (3, 2)) M M2 O O2 := ⟨by kernel_rfl, by kernel_rfl⟩
theorem q_3_4 (th nm : Nat) (M M2 : PM) (O O2 : AObj) : GdOk (gd1 th nm M2 O2 (3, 4)) M M2 O O2 := ⟨by kernel_rfl, by kernel_rfl⟩
theorem q_3_10 (th nm : Nat) (M M2 : PM) (O O2 : AObj) : GdOk (gd1 th nm M2 O2 (3, 10)) M M2 O O2 := ⟨by kernel_rfl, by kernel_rfl⟩
theorem q_3_11 (th nm : Nat) (M M2 : PM) (O O2 : AObj) : GdOk (gd1 th nm M2 O2 (3, 11)) M M2 O O2 := ⟨by kernel_rfl, by kernel_rfl⟩
theorem q_3_12 (th nm : Nat) (M M2 : PM) (O O2 : AObj) : GdOk (gd1 th nm M2 O2 (3, 12)) M M2 O O2 := ⟨by kernel_rfl, by kernel_rfl⟩
theorem q_3_15 (th nm : Nat) (M M2 : PM) (O O2 : AObj) : GdOk (gd1 th nm M2 O2 (3, 15)) M M2 O O2 := ⟨by kernel_rfl, by kernel_rfl⟩
theorem q_3_16 (th nm : Nat) (M M2 : PM) (O O2 : AObj) : GdOk (gd1 th nm M2 O2 (3, 16)) M M2 O O2 := ⟨by kernel_rfl, by kernel_rfl⟩
theorem q_3_18 (th nm : Nat) (M M2 : PM) (O O2 : AObj) : GdOk (gd1 th nm M2 O2 (3, 18)) M M2 O O2 := ⟨by kernel_rfl, by kernel_rfl⟩
theorem q_5_2 (th nm : Nat) (M M2 : PM) (O O2 : AObj) : GdOk (gd1 th nm M2 O2 (5, 2)) M M2 O O2 := ⟨by kernel_rfl, by kernel_rfl⟩
theorem q_5_4 (th nm : Nat) (M M2 : PM) (O O2 : AObj) : GdOk (gd1 th nm M2 O2 (5, 4)) M M2 O O2 := ⟨by kernel_rfl, by kernel_rfl⟩
theorem q_5_6 (th nm : Nat) (M M2 : PM) (O O2 : AObj) : GdOk (gd1 th nm M2 O2 (5, 6)) M M2 O O2 := ⟨by kernel_rfl, by kernel_rfl⟩
theorem q_5_7 (th nm : Nat) (M M2 : PM) (O O2 : AObj) : GdOk (gd1 th nm M2 O2 (5, 7)) M M2 O O2 := ⟨by kernel_rfl, by kernel_rfl⟩
theorem q_5_13 (th nm : Nat) (M M2 : PM) (O O2 : AObj) : GdOk (gd1 th nm M2 O2 (5, 13)) M M2 O O2 := ⟨by kernel_rfl, by kernel_rfl⟩
theorem q_5_14 (th nm : Nat) (M M2 : PM) (O O2 : AObj) : GdOk (gd1 th nm M2 O2 (5, 14)) M M2 O O2 := ⟨by kernel_rfl, by kernel_rfl⟩
theorem q_5_15 (th nm : Nat) (M M2 : PM) (O O2 : AObj) : GdOk (gd1 th nm M2 O2 (5, 15)) M M2 O O2 := ⟨by kernel_rfl, by kernel_rfl⟩
theorem q_5_16 (th nm : Nat) (M M2 : PM) (O O2 : AObj) : GdOk (gd1 th nm M2 O2 (5, 16)) M M2 O O2 := ⟨by kernel_rfl, by kernel_rfl⟩
theorem q_5_18 (th nm : Nat) (M M2 : PM) (O O2 : AObj) : GdOk (gd1 th nm M2 O2 (5, 18)) M M2 O O2 := ⟨by kernel_rfl, by kernel_rfl⟩
theorem q_6_2 (th nm : Nat) (M M2 : PM) (O O2 : AObj) : GdOk (gd1 th nm M2 O2 (6, 2)) M M2 O O2 := ⟨by kernel_rfl, by kernel_rfl⟩
theorem q_6_6 (th nm : Nat) (M M2 : PM) (O O2 : AObj) : GdOk (gd1 th nm M2 O2 (6, 6)) M M2 O O2 := ⟨by kernel_rfl, by kernel_rfl⟩
theorem q_6_7 (th nm : Nat) (M M2 : PM) (O O2 : AObj) : GdOk (gd1 th nm M2 O2 (6, 7)) M M2 O O2 := ⟨by kernel_rfl, by kernel_rfl⟩
theorem q_6_11 (th nm : Nat) (M M2 : PM) (O O2 : AObj) : GdOk (gd1 th nm M2 O2 (6, 11)) M M2 O O2 := ⟨by kernel_rfl, by kernel_rfl⟩
theorem q_6_12 (th nm : Nat) (M M2 : PM) (O O2 : AObj) : GdOk (gd1 th nm M2 O2 (6, 12)) M M2 O O2 := ⟨by kernel_rfl, by kernel_rfl⟩
theorem q_6_13 (th nm : Nat) (M M2 : PM) (O O2 : AObj) : GdOk (gd1 th nm M2 O2 (6, 13)) M M2 O O2 := ⟨by kernel_rfl, by kernel_rfl⟩
theorem q_6_14 (th nm : Nat) (M M2 : PM) (O O2 : AObj) : GdOk (gd1 th nm M2 O2 (6, 14)) M M2 O O2 := ⟨by kernel_rfl, by kernel_rfl⟩
theorem q_6_15 (th nm : Nat) (M M2 : PM) (O O2 : AObj) : GdOk (gd1 th nm M2 O2 (6, 15)) M M2 O O2 := ⟨by kernel_rfl, by kernel_rfl⟩
theorem q_6_16 (th nm : Nat) (M M2 : PM) (O O2 : AObj) : GdOk (gd1 th nm M2 O2 (6, 16)) M M2 O O2 := ⟨by kernel_rfl, by kernel_rfl⟩
theorem q_6_18 (th nm : Nat) (M M2 : PM) (O O2 : AObj) : GdOk (gd1 th nm M2 O2 (6, 18)) M M2 O O2 := ⟨by kernel_rfl, by kernel_rfl⟩
theorem q_1_3 (th nm : Nat) (M M2 : PM) (O : AObj) : GdOk (gd1 th nm M2 O (1, 3)) M M2 O O := ⟨by kernel_rfl, by kernel_rfl⟩
theorem q_4_5 (th nm : Nat) (M M2 : PM) (O : AObj) : GdOk (gd1 th nm M2 O (4, 5)) M M2 O O := ⟨by kernel_rfl, by kernel_rfl⟩
theorem q_3_3 (th nm : Nat) (M M2 : PM) (O : AObj) : GdOk (gd1 th nm M2 O (3, 3)) M M2 O O := ⟨by kernel_rfl, by kernel_rfl⟩
theorem q_5_3 (th nm : Nat) (M M2 : PM) (O : AObj) : GdOk (gd1 th nm M2 O (5, 3)) M M2 O O := ⟨by kernel_rfl, by kernel_rfl⟩
theorem q_5_5 (th nm : Nat) (M M2 : PM) (O : AObj) : GdOk (gd1 th nm M2 O (5, 5)) M M2 O O := ⟨by kernel_rfl, by kernel_rfl⟩
theorem q_6_5 (th nm : Nat) (M M2 : PM) (O : AObj) : GdOk (gd1 th nm M2 O (6, 5)) M M2 O O := ⟨by kernel_rfl, by kernel_rfl⟩
theorem q_all (th nm : Nat) (M M2 : PM) (O O2 : AObj) : ∀ p ∈ tab1, GdOk (gd1 th nm M2 O2 p) M M2 O O2 :=
  fc (q_1_17 th nm M M2 O O2) (fc (q_1_2 th nm M M2 O O2) (fc (q_1_4 th nm M M2 O O2) (fc (q_1_15 th nm M M2 O O2) (fc (q_1_16 th nm M M2 O O2) (fc (q_1_18 th nm M M2 O O2) (fc (q_2_2 th nm M M2 O O2) (fc (q_2_11 th nm M M2 O O2) (fc (q_2_12 th nm M M2 O O2) (fc (q_2_15 th nm M M2 O O2) (fc (q_2_16 th nm M M2 O O2) (fc (q_2_18 th nm M M2 O O2) (fc (q_4_2 th nm M M2 O O2) (fc (q_4_6 th nm M M2 O O2) (fc (q_4_7 th nm M M2 O O2) (fc (q_4_14 th nm M M2 O O2) (fc (q_4_15 th nm M M2 O O2) (fc (q_4_16 th nm M M2 O O2) (fc (q_4_18 th nm M M2 O O2) (fc (q_3_2 th nm M M2 O O2) (fc (q_3_4 th nm M M2 O O2) (fc (q_3_10 th nm M M2 O O2) (fc (q_3_11 th nm M M2 O O2) (fc (q_3_12 th nm M M2 O O2) (fc (q_3_15 th nm M M2 O O2) (fc (q_3_16 th nm M M2 O O2) (fc (q_3_18 th nm M M2 O O2) (fc (q_5_2 th nm M M2 O O2) (fc (q_5_4 th nm M M2 O O2) (fc (q_5_6 th nm M M2 O O2) (fc (q_5_7 th nm M M2 O O2) (fc (q_5_13 th nm M M2 O O2) (fc (q_5_14 th nm M M2 O O2) (fc (q_5_15 th nm M M2 O O2) (fc (q_5_16 th nm M M2 O O2) (fc (q_5_18 th nm M M2 O O2) (fc (q_6_2 th nm M M2 O O2) (fc (q_6_6 th nm M M2 O O2) (fc (q_6_7 th nm M M2 O O2) (fc (q_6_11 th nm M M2 O O2) (fc (q_6_12 th nm M M2 O O2) (fc (q_6_13 th nm M M2 O O2) (fc (q_6_14 th nm M M2 O O2) (fc (q_6_15 th nm M M2 O O2) (fc (q_6_16 th nm M M2 O O2) (fc (q_6_18 th nm M M2 O O2) (fn))))))))))))))))))))))))))))))))))))))))))))))
theorem q_ld (th nm : Nat) (M M2 : PM) (O : AObj) : ∀ p ∈ tabL, GdOk (gd1 th nm M2 O p) M M2 O O :=
  fc (q_1_3 th nm M M2 O) (fc (q_4_5 th nm M M2 O) (fc (q_3_3 th nm M M2 O) (fc (q_5_3 th nm M M2 O) (fc (q_5_5 th nm M M2 O) (fc (q_6_5 th nm M M2 O) (fn))))))
def klL : Nat → List (Nat × Nat)
  | 1 => [(13, 27), (14, 25)]
  | 2 => [(13, 24)]
  | 4 => [(13, 27), (16, 25)]
  | 3 => [(13, 27), (14, 25)]
  | 5 => [(13, 30), (14, 25), (16, 28)]
  | 6 => [(13, 27), (16, 25)]
  | _ => []
def qE (th : Nat) : List Qst := [.pure [] 67 [i64 (Int.ofNat th)] (.agg [i64 1, u64 0])]
def qI (th : Nat) : List Qst := [.pure [] 69 [i64 (Int.ofNat th), i64 3] (i64 3)]
def qI2 (th : Nat) : List Qst := [.pure [] 69 [i64 (Int.ofNat th), i64 2] (i64 2)]
def qH (th : Nat) : List Qst := [.pure [] 68 [i64 (Int.ofNat th)] (.bool true)]
def eB (m : Nat) : Bool := m % 2 == 1
def hB (m : Nat) : Bool := m / 2 % 2 == 1
def iB (m : Nat) : Bool := m / 4 % 2 == 1
def lookD (M2 : PM) (v a b c nm m : Nat) : List Dec := [.call 119 1 2 (u64 v) (tfL M2), .pure 119 1 3 GW (.agg (phC a b c nm)), .pure 119 3 3 GP (.int .u8 (Int.ofNat m))] ++ ((bif eB m then [.pure 121 1 1 [] (.agg [i64 1, u64 0])] else []) ++ (bif iB m then [.pure 122 1 1 [] (i64 3)] else []))
def lookQ (th v a b c nm m : Nat) : List Qst := [.pure GW 27 [u64 v] (.agg (phC a b c nm)), .pure GP 120 [.agg (phC a b c nm)] (.int .u8 (Int.ofNat m))] ++ ((bif eB m then qE th else []) ++ (bif iB m then qI th else []))
def gd2 (th nm v a b c : Nat) (M2 : PM) (m : Nat) : GD := ⟨25, [.ptr 12 0, .ptr 7 0], stB th 0 0 1, stB th nm m 2, klL m, (klL m).map (·.2), .bool false, lookD M2 v a b c nm m, some (28, [.ptr 7 0, .agg (ak aP)], u64 v, tfL M2), lookQ th v a b c nm m⟩
theorem lk_1 (th nm v a b c : Nat) (M M2 : PM) (O : AObj) : GdOk (gd2 th nm v a b c M2 1) M M2 O O := ⟨by kernel_rfl, by kernel_rfl⟩
theorem lk_2 (th nm v a b c : Nat) (M M2 : PM) (O : AObj) : GdOk (gd2 th nm v a b c M2 2) M M2 O O := ⟨by kernel_rfl, by kernel_rfl⟩
theorem lk_4 (th nm v a b c : Nat) (M M2 : PM) (O : AObj) : GdOk (gd2 th nm v a b c M2 4) M M2 O O := ⟨by kernel_rfl, by kernel_rfl⟩
theorem lk_3 (th nm v a b c : Nat) (M M2 : PM) (O : AObj) : GdOk (gd2 th nm v a b c M2 3) M M2 O O := ⟨by kernel_rfl, by kernel_rfl⟩
theorem lk_5 (th nm v a b c : Nat) (M M2 : PM) (O : AObj) : GdOk (gd2 th nm v a b c M2 5) M M2 O O := ⟨by kernel_rfl, by kernel_rfl⟩
theorem lk_6 (th nm v a b c : Nat) (M M2 : PM) (O : AObj) : GdOk (gd2 th nm v a b c M2 6) M M2 O O := ⟨by kernel_rfl, by kernel_rfl⟩
def gdN (th : Nat) : GD := ⟨24, [.ptr 10 0], stB th 0 0 0, stB th 0 0 17, [(12, 20), (13, 22)], [20, 22], .ptr 20 0, [], none, []⟩
theorem newE (th : Nat) (M : PM) (O : AObj) : GdOk (gdN th) M M O O := ⟨by kernel_rfl, by kernel_rfl⟩
def klX : Nat → List (Nat × Nat)
  | 1 => [(12, 20), (14, 21), (13, 27)]
  | 2 => [(12, 20), (15, 21), (13, 27)]
  | 4 => [(12, 20), (16, 21), (13, 27)]
  | 3 => [(12, 20), (14, 21), (15, 24), (13, 30)]
  | 5 => [(12, 20), (14, 21), (16, 24), (13, 30)]
  | 6 => [(12, 20), (15, 21), (16, 24), (13, 30)]
  | _ => []
def newD (m : Nat) : List Dec := (bif eB m then [.pure 43 1 1 [] (.agg [i64 1, u64 0])] else []) ++ ((bif hB m then [.pure 44 1 1 [] (.bool true)] else []) ++ (bif iB m then [.pure 45 1 1 [] (i64 2)] else []))
def newQ (th m : Nat) : List Qst := (bif eB m then qE th else []) ++ ((bif hB m then qH th else []) ++ (bif iB m then qI2 th else []))
def gdX (th nm m : Nat) : GD := ⟨23, [.ptr 10 0], stB th nm m 8, stB th nm m 18, klX m, (klX m).map (·.2), .ptr 20 0, newD m, none, newQ th m⟩
theorem nX_1 (th nm : Nat) (M : PM) (O : AObj) : GdOk (gdX th nm 1) M M O O := ⟨by kernel_rfl, by kernel_rfl⟩
theorem nX_2 (th nm : Nat) (M : PM) (O : AObj) : GdOk (gdX th nm 2) M M O O := ⟨by kernel_rfl, by kernel_rfl⟩
theorem nX_4 (th nm : Nat) (M : PM) (O : AObj) : GdOk (gdX th nm 4) M M O O := ⟨by kernel_rfl, by kernel_rfl⟩
theorem nX_3 (th nm : Nat) (M : PM) (O : AObj) : GdOk (gdX th nm 3) M M O O := ⟨by kernel_rfl, by kernel_rfl⟩
theorem nX_5 (th nm : Nat) (M : PM) (O : AObj) : GdOk (gdX th nm 5) M M O O := ⟨by kernel_rfl, by kernel_rfl⟩
theorem nX_6 (th nm : Nat) (M : PM) (O : AObj) : GdOk (gdX th nm 6) M M O O := ⟨by kernel_rfl, by kernel_rfl⟩
end Go.Proofs.YtcnfblibfndepaaGreatDoor.ctlsCover
