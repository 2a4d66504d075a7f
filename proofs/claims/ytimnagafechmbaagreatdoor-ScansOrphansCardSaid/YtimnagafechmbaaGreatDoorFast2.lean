/- The evaluator of closed runs is sound. Conditions: those that each theorem names, and no others. -/
import Derived.Test.YtimnagafechmbaaGreatDoorFast1
import Derived.ScopeJumps
import Derived.Test.YtimnagafechmbaaGreatDoorMini3
namespace Go.Mini.Fast
open Go

section
variable {P : Program} {σ : Sg} {N : Nat}

theorem compOp_ok (op : Op) : XoOk P σ N op (compOp P σ op) := by
  cases op with
  | move x =>
    simp only [compOp]
    split
    · rename_i g hg
      exact ⟨rfl, fun e ts E s => by simp only [valA]; exact opG_ok E hg⟩
    · trivial
  | assign x =>
    simp only [compOp]
    split
    · rename_i g hg
      exact ⟨rfl, fun e ts E s => by simp only [valA]; exact opG_ok E hg⟩
    · trivial
  | pick c a b =>
    simp only [compOp]
    split
    · rename_i gc ga gb hc ha hb
      refine ⟨rfl, fun e ts E k hh => ?_⟩
      rcases onBool_t hh with ⟨h1, h2⟩ | ⟨h1, h2⟩
      · exact ⟨_, fun s => by simp only [valA, opG_ok E hc, h1]; exact opG_ok E ha, h2⟩
      · exact ⟨_, fun s => by simp only [valA, opG_ok E hc, h1]; exact opG_ok E hb, h2⟩
    · trivial
  | alloc t =>
    simp only [compOp]
    split
    · rename_i z hz
      exact ⟨rfl, fun e ts n E k hh => ⟨_, _, by simp only [allocA, hz], hh⟩⟩
    · trivial
  | box t x =>
    simp only [compOp]
    split
    · rename_i g hg
      exact ⟨rfl, fun e ts n E k hh => ⟨_, _, by simp only [allocA, opG_ok E hg], cellsK_t hh⟩⟩
    · trivial
  | build t ps =>
    simp only [compOp]
    split
    · rename_i z fields hz hu
      split
      · rename_i places hp
        split
        · rename_i g hg
          refine ⟨rfl, fun e ts E k hh => ?_⟩
          obtain ⟨l, r, h1, h2, h3⟩ := fillG_ok E hg hh
          exact ⟨.agg r, fun s => by simp only [valA, h1, buildA, hz, hu, hp, h2], h3⟩
        · trivial
      · trivial
    · rename_i z len el hz hu
      split
      · rename_i size hs
        split
        · rename_i g hg
          refine ⟨rfl, fun e ts E k hh => ?_⟩
          obtain ⟨l, r, h1, h2, h3⟩ := fillG_ok E hg hh
          exact ⟨.agg r, fun s => by simp only [valA, h1, buildA, hz, hu, hs, h2], h3⟩
        · trivial
      · trivial
    · trivial
  | buildSlice t n ps => exact slowA_ok rfl
  | insert t m key x =>
    simp only [compOp]
    split
    · rename_i kt et gm gk gx hu hm hk hx
      split
      · rename_i cs hcs
        refine ⟨rfl, fun r e ts h n s hr E R k hh => ?_⟩
        obtain ⟨s', h', h1, h2, h3⟩ := updateK_t R hu hcs hh
        exact ⟨undefA, h', n, s', .inl (by simp only [effA, opG_ok E hm, opG_ok E hk, opG_ok E hx, h1]), h2, h3⟩
      · trivial
    · trivial
  | mapUpdate t m key x =>
    simp only [compOp]
    split
    · rename_i kt et gm gk gx hu hm hk hx
      split
      · rename_i cs hcs
        refine ⟨rfl, fun r e ts h n s hr E R k hh => ?_⟩
        obtain ⟨s', h', h1, h2, h3⟩ := updateK_t R hu hcs hh
        exact ⟨undefA, h', n, s', .inl (by simp only [effA, opG_ok E hm, opG_ok E hk, opG_ok E hx, h1]), h2, h3⟩
      · trivial
    · trivial
  | load t a =>
    simp only [compOp]
    split
    · rename_i g ha hg
      refine ⟨rfl, fun e ts h n s E R k hh => ?_⟩
      obtain ⟨b, o, h1, hh⟩ := onPtr_t hh
      obtain ⟨ro, cs, h2, hh⟩ := onCells_t (onB_t hh)
      obtain ⟨v, h3, h4⟩ := nthK_t hh
      exact ⟨v, by simp only [valA, opG_ok E hg, h1, loadA, ha, R.get _ _ h2, h3], h4⟩
    · rename_i sz g ha hs hg
      refine ⟨rfl, fun e ts h n s E R k hh => ?_⟩
      obtain ⟨b, o, h1, hh⟩ := onPtr_t hh
      obtain ⟨l, h2, h3⟩ := readK_t (f := fun r => k (.agg r)) R hh
      exact ⟨.agg l, by simp only [valA, opG_ok E hg, h1, loadA, ha, hs, h2], h3⟩
    · trivial
  | store t a x =>
    simp only [compOp]
    split
    · rename_i sz ga gx ht ha hx
      exact store_ok ht ha hx
    · trivial
  | nilCheck x =>
    simp only [compOp]
    split
    · rename_i g hg
      refine ⟨rfl, fun e ts E k hh => ?_⟩
      obtain ⟨h1, h2⟩ := okNil_t (P := P) (ts := ts) hh
      exact ⟨g e, fun s => h2 s (opG_ok E hg), h1⟩
    · trivial
  | binOp op t x y yt =>
    simp only [compOp]
    split
    · rename_i gx gy hx hy
      exact compBin_ok hx hy
    · trivial
  | unOp op t x =>
    cases op with
    | not =>
      simp only [compOp]
      split
      · rename_i g hg
        refine ⟨rfl, fun e ts E k hh => ?_⟩
        rcases onBool_t hh with ⟨h1, h2⟩ | ⟨h1, h2⟩
        · exact ⟨_, fun s => by simp only [valA, opG_ok E hg, h1, unaryA]; rfl, h2⟩
        · exact ⟨_, fun s => by simp only [valA, opG_ok E hg, h1, unaryA]; rfl, h2⟩
      · trivial
    | _ => exact slowP_ok rfl
  | convert src dst x =>
    simp only [compOp]
    split
    · rename_i ki g h1 h2 hg
      refine ⟨rfl, fun e ts E k hh => ?_⟩
      obtain ⟨k', m, h3, hh⟩ := onInt_t hh
      refine ⟨.int ki (ki.wrap m), fun s => ?_, ?_⟩
      · have := h1
        simp only [valA, opG_ok E hg, h3, convertA, h1, h2]
      · rcases onNat_t hh with ⟨j, rfl, hh⟩ | hh
        · rcases small_t hh with ⟨h4, hh⟩ | hh
          · rw [wrap_lim h4]; exact hh
          · exact hh
        · exact hh
    · exact slowP_ok rfl
  | makeInterface t x =>
    simp only [compOp]
    split
    · trivial
    · rename_i g d hne hg hu
      refine ⟨rfl, fun e ts E k hh => ⟨_, fun s => ?_, hh⟩⟩
      simp only [valA, opG_ok E hg]
      split
      · rename_i h1 h2
        rw [hu] at h2
        simp only [Option.some.injEq] at h2
        exact absurd h2 (hne _)
      · rename_i h1 h2
        simp only [Option.some.injEq] at h1
        rw [h1]
      · rename_i h1 h2
        exact absurd hu (h2 _ _ rfl)
    · trivial
  | makeFunc fn first captured =>
    simp only [compOp]
    split
    · rename_i ga gb ha hb
      exact ⟨rfl, fun e ts E k hh => ⟨_, fun s => by simp only [valA, opsG_ok E ha, opsG_ok E hb], hh⟩⟩
    · trivial
  | makeMap t r =>
    cases r with
    | none => exact ⟨rfl, fun e ts n E k hh => ⟨_, _, by simp only [allocA], hh⟩⟩
    | some x => exact slowA_ok rfl
  | makeSlice t l c => exact slowA_ok rfl
  | slice t x lo hi mx => exact slowP_ok rfl
  | fieldAddr t x f =>
    simp only [compOp]
    split
    · rename_i fields g hu hg
      split
      · rename_i fd hf
        split
        · rename_i m hs
          refine ⟨rfl, fun e ts E k hh => ?_⟩
          obtain ⟨b, o, h1, hh⟩ := onPtr_t hh
          exact ⟨.ptr b (o + fd.offset), fun s => by simp only [valA, opG_ok E hg, h1, fieldAddrA, hu, hf, hs], force_t hh⟩
        · trivial
      · trivial
    · trivial
  | field t x f =>
    simp only [compOp]
    split
    · rename_i fields g hu hg
      split
      · rename_i fd hf
        split
        · rename_i ha
          refine ⟨rfl, fun e ts E k hh => ?_⟩
          obtain ⟨cs, h1, hh⟩ := onAgg_t hh
          obtain ⟨v, h2, h3⟩ := nthK_t hh
          exact ⟨v, fun s => by simp only [valA, opG_ok E hg, h1, fieldA, hu, hf, partA, ha, h2], h3⟩
        · rename_i sz ha hs
          refine ⟨rfl, fun e ts E k hh => ?_⟩
          obtain ⟨cs, h1, hh⟩ := onAgg_t hh
          obtain ⟨_, hh⟩ := dropK_t hh
          obtain ⟨l, h2, h3⟩ := takeK_t hh
          exact ⟨.agg l, fun s => by simp only [valA, opG_ok E hg, h1, fieldA, hu, hf, partA, ha, hs, h2], h3⟩
        · trivial
      · trivial
    · trivial
  | indexAddr t x i =>
    simp only [compOp]
    split
    · rename_i el gx gi hu hx hi
      split
      · rename_i sz hs
        refine ⟨rfl, fun e ts E k hh => ?_⟩
        obtain ⟨ki, z, h1, hh⟩ := onInt_t hh
        rcases onNat_t hh with ⟨m, rfl, hh⟩ | hh
        · obtain ⟨b, o, len, c, h2, hh⟩ := onSl_t hh
          obtain ⟨h3, hh⟩ := iff_t hh
          have h4 : (0 : Int) ≤ Int.ofNat m ∧ Int.ofNat m < (len : Int) := by
            have := blt_t h3
            simp only [Int.ofNat_eq_natCast]
            omega
          refine ⟨.ptr b (o + m * sz), fun s => ?_, force_t hh⟩
          rcases h2 with h2 | h2 <;> simp only [valA, opG_ok E hx, opG_ok E hi, h1, h2, indexAddrA, hu, hs, if_pos h4] <;> rfl
        · exact no hh
      · trivial
    · rename_i len el gx gi hu hx hi
      split
      · rename_i sz hs
        refine ⟨rfl, fun e ts E k hh => ?_⟩
        obtain ⟨ki, z, h1, hh⟩ := onInt_t hh
        rcases onNat_t hh with ⟨m, rfl, hh⟩ | hh
        · obtain ⟨h3, hh⟩ := iff_t hh
          obtain ⟨b, o, h2, hh⟩ := onPtr_t hh
          have h4 : (0 : Int) ≤ Int.ofNat m ∧ Int.ofNat m < (len : Int) := by
            have := blt_t h3
            simp only [Int.ofNat_eq_natCast]
            omega
          refine ⟨.ptr b (o + m * sz), fun s => ?_, force_t hh⟩
          simp only [valA, opG_ok E hx, opG_ok E hi, h1, h2, indexAddrA, hu, hs, if_pos h4]
          rfl
        · exact no hh
      · trivial
    · trivial
  | index t x i =>
    simp only [compOp]
    split
    · rename_i len el gx gi hu hx hi
      split
      · rename_i sz ha hs
        refine ⟨rfl, fun e ts E k hh => ?_⟩
        obtain ⟨ki, z, h1, hh⟩ := onInt_t hh
        rcases onNat_t hh with ⟨m, rfl, hh⟩ | hh
        · obtain ⟨h3, hh⟩ := iff_t hh
          obtain ⟨cs, h2, hh⟩ := onAgg_t hh
          obtain ⟨v, h5, h6⟩ := nthK_t (force_t hh)
          have h4 : (0 : Int) ≤ Int.ofNat m ∧ Int.ofNat m < (len : Int) := by
            have := blt_t h3
            simp only [Int.ofNat_eq_natCast]
            omega
          refine ⟨v, fun s => ?_, h6⟩
          simp only [valA, opG_ok E hx, opG_ok E hi, h1, h2, indexA, hu, hs, if_pos h4, partA, ha]
          exact h5
        · exact no hh
      · rename_i sz ha hs
        refine ⟨rfl, fun e ts E k hh => ?_⟩
        obtain ⟨ki, z, h1, hh⟩ := onInt_t hh
        rcases onNat_t hh with ⟨m, rfl, hh⟩ | hh
        · obtain ⟨h3, hh⟩ := iff_t hh
          obtain ⟨cs, h2, hh⟩ := onAgg_t hh
          obtain ⟨_, hh⟩ := dropK_t (force_t hh)
          obtain ⟨l, h5, h6⟩ := takeK_t hh
          have h4 : (0 : Int) ≤ Int.ofNat m ∧ Int.ofNat m < (len : Int) := by
            have := blt_t h3
            simp only [Int.ofNat_eq_natCast]
            omega
          refine ⟨.agg l, fun s => ?_, h6⟩
          have h5' : takeN sz (List.drop ((Int.ofNat m).toNat * sz) cs) = some l := h5
          simp only [valA, opG_ok E hx, opG_ok E hi, h1, h2, indexA, hu, hs, if_pos h4, partA, ha, h5']
        · exact no hh
      · trivial
    · exact slowP_ok rfl
  | typeAssert x xt asserted ok =>
    simp only [compOp]
    split
    · trivial
    · rename_i d g z hne hu hg hz
      refine ⟨rfl, fun e ts E k hh => ?_⟩
      have ta : ∀ v, typeAssertA P v asserted ok = (match v with
          | .nilIface => if ok then match zeroA P asserted with
              | some z => some (.tuple [z, .bool false])
              | none => none
            else none
          | .iface t v => if Nat.beq t asserted then some (if ok then .tuple [v, .bool true] else v)
            else if ok then match zeroA P asserted with
              | some z => some (.tuple [z, .bool false])
              | none => none
            else none
          | _ => none) := by
        intro v
        unfold typeAssertA
        split
        · rename_i ms h2
          rw [hu] at h2
          simp only [Option.some.injEq] at h2
          exact absurd h2 (hne _)
        · cases v <;> rfl
        · rename_i h2
          rw [hu] at h2
          cases h2
      rcases onIface_t hh with ⟨t, v, h1, hh⟩ | ⟨h1, hh⟩
      · rcases ite_t hh with ⟨h2, hh⟩ | ⟨h2, hh⟩
        · refine ⟨if ok then .tuple [v, .bool true] else v, fun s => by simp only [valA, opG_ok E hg, h1, ta, h2, if_true], ?_⟩
          cases ok <;> exact hh
        · obtain ⟨h3, hh⟩ := iff_t hh
          exact ⟨.tuple [z, .bool false], fun s => by simp only [valA, opG_ok E hg, h1]; rw [ta]; simp only [h2, h3, hz, Bool.false_eq_true, if_false, if_true], hh⟩
      · obtain ⟨h3, hh⟩ := iff_t hh
        exact ⟨.tuple [z, .bool false], fun s => by simp only [valA, opG_ok E hg, h1]; rw [ta]; simp only [h3, hz, if_true], hh⟩
    · trivial
  | extract x i =>
    simp only [compOp]
    split
    · rename_i g hg
      refine ⟨rfl, fun e ts E k hh => ?_⟩
      obtain ⟨vs, h1, hh⟩ := onTup_t hh
      obtain ⟨h2, hh⟩ := is1_t hh
      obtain ⟨v, h3, h4⟩ := nthK_t hh
      exact ⟨v, fun s => by simp only [valA, opG_ok E hg, h1, h2, Bool.false_eq_true, if_false, h3], h4⟩
    · trivial
  | lookup t m key ok =>
    simp only [compOp]
    split
    · rename_i kt et gm gk hu hm hk
      split
      · rename_i cs z hcs hz
        refine ⟨rfl, fun e ts h n s E R k hh => ?_⟩
        obtain ⟨v, h1, h2⟩ := lookupK_t R hu hcs hz hh
        exact ⟨v, by simp only [valA, opG_ok E hm, opG_ok E hk, h1], h2⟩
      · trivial
    · trivial
  | mapEntry t m key =>
    simp only [compOp]
    split
    · rename_i kt et gm gk hu hm hk
      split
      · rename_i cs z hcs hz
        refine ⟨rfl, fun r e ts h n s hr E R k hh => ?_⟩
        obtain ⟨v, st, s', h', h1, h2, h3⟩ := entryK_t R hu hcs hz hh
        exact ⟨_, h', n, s', .inl (by simp only [effA, opG_ok E hm, opG_ok E hk, h1]), h2, h3⟩
      · trivial
    · trivial
  | entryStore t m st x =>
    simp only [compOp]
    split
    · rename_i gm gs gx hm hst hx
      refine ⟨rfl, fun r e ts h n s hr E R k hh => ?_⟩
      obtain ⟨s', h', h1, h2, h3⟩ := entryStoreK_t R hh
      exact ⟨undefA, h', n, s', .inl (by simp only [effA, opG_ok E hm, opG_ok E hst, opG_ok E hx, h1]), h2, h3⟩
    · trivial
  | call c => exact compCall_ok c
  | _ => trivial
end
end Go.Mini.Fast
namespace Go.Mini.Fast
open Go

section
variable {P : Program} {σ : Sg} {N : Nat} {ops : Array Oper}

/-! ### one operation -/
theorem tget_some {ts : List AV} {d : Nat} {a : AV} (h : tget ts d = a) (hne : a ≠ undefA) : ts[d]? = some a := by
  unfold tget at h
  rw [List.getD_eq_getElem?_getD] at h
  cases hd : ts[d]? with
  | none => rw [hd] at h; exact absurd h.symm hne
  | some b => rw [hd] at h; exact congrArg some h
/-- Is an operation done here? -/
def Done_ (ops : Array Oper) (o : Oper) (ts : List AV) (b : Bool) : Prop := gjunk ops ts o = false ∧ wantedA ops ts o = b
theorem guard_free {o : Oper} {ts : List AV} (h : o.guard = none) : Done_ ops o ts true := by
  constructor
  · unfold gjunk; rw [h]
  · unfold wantedA; rw [h]
theorem guard_on {o : Oper} {ts : List AV} {j d : Nat} {want : Bool} {v : AV} {x y : Bool} (h : o.guard = some (j, want)) (hd : dstOf ops j = some d) (hv : tget ts d = v) (hh : onGuard v want x y = true) :
    (Done_ ops o ts true ∧ x = true) ∨ (Done_ ops o ts false ∧ y = true) := by
  have bool : ∀ b, v = .bool b → Done_ ops o ts (b == want) := by
    intro b hb
    have := tget_some (hv.trans hb) (by simp [undefA])
    constructor
    · unfold gjunk; rw [h]; simp only [hd, this]
    · unfold wantedA; rw [h]; simp only [hd, this]
  cases v with
  | bool b =>
    have := bool b rfl
    cases b <;> cases want <;> first | exact .inl ⟨this, hh⟩ | exact .inr ⟨this, hh⟩
  | tuple l =>
    cases l with
    | nil =>
      refine .inr ⟨?_, hh⟩
      have : ts[d]? = none ∨ ts[d]? = some (.tuple []) := by
        unfold tget at hv
        rw [List.getD_eq_getElem?_getD] at hv
        cases hx : ts[d]? with
        | none => exact .inl rfl
        | some b => rw [hx] at hv; exact .inr (congrArg some hv)
      constructor
      · unfold gjunk; rw [h]
        rcases this with e | e <;> simp only [hd, e]
      · unfold wantedA; rw [h]
        rcases this with e | e <;> simp only [hd, e]
    | cons a l => exact no hh
  | _ => exact no hh
theorem sv_skip {o : Oper} {ts : List AV} {s : AS} (h : Done_ ops o ts false) : SV P ops o ts s undefA s := by
  refine ⟨fun _ => none, fun _ _ e => (by cases e), ?_⟩
  unfold stepV
  rw [h.1, h.2]
  rfl
theorem sv_val {o : Oper} {ts : List AV} {s : AS} {v : AV} (h : Done_ ops o ts true) (hk : kindOf o.op = .P ∨ kindOf o.op = .R) (hv : valA P ts s o.op = some v) : SV P ops o ts s v s := by
  refine ⟨fun _ => none, fun _ _ e => (by cases e), ?_⟩
  unfold stepV opA
  rw [h.1, h.2]
  rcases hk with hk | hk <;> rw [hk] <;> simp only [hv, if_true, Bool.false_eq_true, if_false]
theorem sv_alloc {o : Oper} {ts : List AV} {s : AS} {v : AV} {ob : AObj} (h : Done_ ops o ts true) (hk : kindOf o.op = .A) (hv : allocA P ts s.nx o.op = some (v, ob)) : SV P ops o ts s v (s.push ob) := by
  refine ⟨fun _ => none, fun _ _ e => (by cases e), ?_⟩
  unfold stepV opA
  rw [h.1, h.2, hk]
  simp only [hv, if_true, Bool.false_eq_true, if_false]
open Classical in
theorem sv_eff {o : Oper} {ts : List AV} {s s' : AS} {v : AV} (h : Done_ ops o ts true) (hk : kindOf o.op = .E)
    (hv : effA P ts s o.op = some (.val v s') ∨ ∃ g args, effA P ts s o.op = some (.enter g args) ∧ Sound P (.call g args s) ⟨.ret, [v], s'⟩) : SV P ops o ts s v s' := by
  rcases hv with hv | ⟨g, args, hv, hs⟩
  · refine ⟨fun _ => none, fun _ _ e => (by cases e), ?_⟩
    unfold stepV opA
    rw [h.1, h.2, hk]
    simp only [hv, if_true, Bool.false_eq_true, if_false]
  · refine ⟨fun t => if t = .call g args s then some ⟨.ret, [v], s'⟩ else none, fun t r e => ?_, ?_⟩
    · simp only at e
      split at e
      · rename_i ht
        simp only [Option.some.injEq] at e
        subst e ht
        exact hs
      · cases e
    · unfold stepV opA
      rw [h.1, h.2, hk]
      simp only [hv, if_true, Bool.false_eq_true, if_false]

/-- Behind an operation's slot. -/
def next (σ : Sg) (dst : Option Tmp) : Sg := match dst with
  | none => σ
  | some d => ⟨σ.V, dropT d σ.l⟩
theorem put_ok {dst : Option Tmp} {put : Env → AV → Env} {e : Env} {ts : List AV} (hp : putG N dst = some put) (hl : laid σ.V dst = true) (E : ER σ N e ts) (v : AV) : ER (next σ dst) N (put e v) (putA ts dst v) := by
  cases dst with
  | none =>
    simp only [putG, Option.some.injEq] at hp
    subst hp
    exact E
  | some d =>
    simp only [putG] at hp
    split at hp
    · rename_i hc
      simp only [Bool.and_eq_true] at hc
      have hb : bit σ.V d = false := by simpa [laid] using hl
      have := E.put (blt_t hc.1) (blt_t hc.2) hb v
      cases ha : acE d with
      | mk g st =>
        rw [ha] at hp this
        simp only [Option.some.injEq] at hp
        subst hp
        exact this
    · cases hp
/-- An operation, then y. -/
theorem doX_ok {o : Oper} {x : Xo} {put : Env → AV → Env} {y z : XE} (hx : XoOk P σ N o.op x) (hd : doX x put y = some z) {r : RecT} (hr : RecOk P r) {e : Env} {h : H} {n : Nat} {k : KE} {ts : List AV} {s : AS} (hdo : Done_ ops o ts true)
    (E : ER σ N e ts) (R : HR h n s) (hh : z r e h n k = true) : ∃ v s' h' n', SV P ops o ts s v s' ∧ HR h' n' s' ∧ y r (put e v) h' n' k = true := by
  cases x with
  | mov g =>
    simp only [doX, Option.some.injEq] at hd
    subst hd
    exact ⟨g e, s, h, n, sv_val hdo (.inl hx.1) (hx.2 e ts E s), R, hh⟩
  | pur f =>
    simp only [doX, Option.some.injEq] at hd
    subst hd
    obtain ⟨v, h1, h2⟩ := hx.2 e ts E _ hh
    exact ⟨v, s, h, n, sv_val hdo (.inl hx.1) (h1 s), R, h2⟩
  | rd f =>
    simp only [doX, Option.some.injEq] at hd
    subst hd
    obtain ⟨v, h1, h2⟩ := hx.2 e ts h n s E R _ hh
    exact ⟨v, s, h, n, sv_val hdo (.inr hx.1) h1, R, h2⟩
  | alc f =>
    simp only [doX, Option.some.injEq] at hd
    subst hd
    obtain ⟨v, ob, h1, h2⟩ := hx.2 e ts n E _ hh
    obtain ⟨h', R', h3⟩ := pushK_t R h2
    exact ⟨v, s.push ob, h', n + 1, sv_alloc hdo hx.1 (by rw [R.nx]; exact h1), R', h3⟩
  | eff f =>
    simp only [doX, Option.some.injEq] at hd
    subst hd
    obtain ⟨v, h', n', s', h1, h2, h3⟩ := hx.2 r e ts h n s hr E R _ hh
    exact ⟨v, s', h', n', sv_eff hdo hx.1 h1, h2, h3⟩
  | bad => simp [doX] at hd
theorem guardG_ok {o : Oper} {g : Env → AV} {want : Bool} (hg : guardG P σ ops o = .on g want) : ∃ j d, o.guard = some (j, want) ∧ dstOf ops j = some d ∧ opG P σ (.tmp d) = some g := by
  unfold guardG at hg
  split at hg
  · cases hg
  · rename_i j w hjw
    split at hg
    · rename_i d hd
      split at hg
      · rename_i g' hg'
        cases hg
        exact ⟨j, d, hjw, hd, hg'⟩
      · cases hg
    · cases hg
theorem guardG_free {o : Oper} (hg : guardG P σ ops o = .free) : o.guard = none := by
  unfold guardG at hg
  split at hg
  · assumption
  · split at hg
    · split at hg <;> cases hg
    · cases hg
theorem operX_ok {o : Oper} {y z : XE} (hz : operX P N σ ops o y = some z) {r : RecT} (hr : RecOk P r) {e : Env} {h : H} {n : Nat} {k : KE} {ts : List AV} {s : AS} (E : ER σ N e ts) (R : HR h n s) (hh : z r e h n k = true) :
    ∃ v s' e' h' n', SV P ops o ts s v s' ∧ ER (next σ o.dst) N e' (putA ts o.dst v) ∧ HR h' n' s' ∧ y r e' h' n' k = true := by
  unfold operX at hz
  split at hz
  · rename_i hl
    split at hz
    · rename_i put hp
      split at hz
      · rename_i x hx
        cases hg : guardG P σ ops o with
        | free =>
          rw [hg] at hz
          simp only [guardX, Option.some.injEq] at hz
          subst hz
          obtain ⟨v, s', h', n', h1, h2, h3⟩ := doX_ok (compOp_ok o.op) hx hr (guard_free (ops := ops) (guardG_free hg)) E R hh
          exact ⟨v, s', _, h', n', h1, put_ok hp hl E v, h2, h3⟩
        | on g want =>
          rw [hg] at hz
          simp only [guardX, Option.some.injEq] at hz
          subst hz
          obtain ⟨j, d, k1, k2, k3⟩ := guardG_ok hg
          have hv : tget ts d = g e := by
            have := opG_ok E k3
            simpa [evA] using this
          rcases guard_on k1 k2 hv hh with ⟨hdo, hh⟩ | ⟨hdo, hh⟩
          · obtain ⟨v, s', h', n', h1, h2, h3⟩ := doX_ok (compOp_ok o.op) hx hr hdo E R hh
            exact ⟨v, s', _, h', n', h1, put_ok hp hl E v, h2, h3⟩
          · exact ⟨undefA, s, _, h, n, sv_skip hdo, put_ok hp hl E undefA, R, hh⟩
        | bad => rw [hg] at hz; simp [guardX] at hz
      · cases hz
    · cases hz
  · cases hz

/-! ### a region in its order -/
def StepsR (P : Program) (ops : Array Oper) : List Oper → List AV → AS → List AV → AS → Prop
  | [], ts, s, ts', s' => ts' = ts ∧ s' = s
  | o :: l, ts, s, ts', s' => ∃ v s1, SV P ops o ts s v s1 ∧ StepsR P ops l (putA ts o.dst v) s1 ts' s'
theorem shift_ptr {v : AV} {off b o : Nat} (h : shiftV off v = .ptr b o) : ∃ o', v = .ptr b o' ∧ o = o' + off := by
  cases v with
  | ptr c p =>
    simp only [shiftV, AV.ptr.injEq] at h
    obtain ⟨rfl, h2⟩ := h
    exact ⟨p, rfl, h2.symm⟩
  | _ => simp [shiftV, undefA] at h
theorem fieldOff_ok {t f off : Nat} {b o : Nat} (h : fieldOff P t f = some off) : fieldAddrA P t (.ptr b o) f = some (.ptr b (o + off)) := by
  unfold fieldOff at h
  split at h
  · rename_i fields hu
    split at h
    · rename_i fd hf
      split at h
      · rename_i m hs
        simp only [Option.some.injEq] at h
        subst h
        simp only [fieldAddrA, hu, hf, hs]
      · cases h
    · cases h
  · cases h
theorem virt_ok {o : Oper} {vt : Vt} {c : Option ((Env → AV) × Bool)} (hv : virt P σ o = some (vt, c)) {e : Env} {ts : List AV} (E : ER σ N e ts) {y : XE} {r : RecT} {h : H} {n : Nat} {k : KE} (hh : lookX c y r e h n k = true) :
    o.guard = none ∧ kindOf o.op = .P ∧ (∀ s, valA P ts s o.op = some (vt.get e)) ∧ WB vt ∧ y r e h n k = true := by
  unfold virt at hv
  split at hv
  · cases hv
  · rename_i hg
    refine ⟨hg, ?_⟩
    split at hv
    · rename_i x ho
      split at hv
      · rename_i d hd
        simp only [Option.some.injEq, Prod.mk.injEq] at hv
        obtain ⟨rfl, rfl⟩ := hv
        obtain ⟨h1, h2⟩ := descO_ok E hd
        rw [ho]
        exact ⟨rfl, fun s => by simp only [valA]; exact h1, h2, hh⟩
      · cases hv
    · rename_i x ho
      split at hv
      · rename_i d hd
        simp only [Option.some.injEq, Prod.mk.injEq] at hv
        obtain ⟨rfl, rfl⟩ := hv
        obtain ⟨h1, h2⟩ := descO_ok E hd
        obtain ⟨k1, k2⟩ := okNil_t (P := P) (ts := ts) (show okNil (d.get e) (y r e h n k) = true from hh)
        rw [ho]
        exact ⟨rfl, fun s => k2 s h1, h2, k1⟩
      · cases hv
    · rename_i t x f ho
      split at hv
      · rename_i b g off hd hf
        simp only [Option.some.injEq, Prod.mk.injEq] at hv
        obtain ⟨rfl, rfl⟩ := hv
        obtain ⟨h1, h2⟩ := descO_ok E hd
        obtain ⟨bb, oo, k1, k2⟩ := onPtr_t (show onPtr (g e) (fun _ _ => y r e h n k) = true from hh)
        rw [ho]
        refine ⟨rfl, fun s => ?_, h2, k2⟩
        have h1' : evA P ts x = some (g e) := h1
        simp only [valA, h1', k1, fieldOff_ok hf]
        show _ = some (shiftV off (g e))
        rw [k1]
        rfl
      · rename_i b g off' off hd hf
        simp only [Option.some.injEq, Prod.mk.injEq] at hv
        obtain ⟨rfl, rfl⟩ := hv
        obtain ⟨h1, h2⟩ := descO_ok E hd
        obtain ⟨bb, oo, k1, k2⟩ := onPtr_t (show onPtr (shiftV off' (g e)) (fun _ _ => y r e h n k) = true from hh)
        obtain ⟨o', k3, k4⟩ := shift_ptr k1
        rw [ho]
        refine ⟨rfl, fun s => ?_, h2, k2⟩
        have h1' : evA P ts x = some (shiftV off' (g e)) := h1
        simp only [valA, h1', k1, fieldOff_ok hf]
        show _ = some (shiftV (off' + off) (g e))
        rw [k3, k4, Nat.add_assoc]
        rfl
      · cases hv
    · cases hv
/-- Known slots: not laid, known by themselves. -/
def Known (V : Nat) (L : List (Nat × Vt)) : Prop := ∀ p ∈ L, bit V p.1 = true ∧ p.2.base = 256
theorem Known.nil {V : Nat} : Known V [] := nofun
theorem Known.next {V d : Nat} {L : List (Nat × Vt)} (hL : Known V L) (hd : d < 256) (hf : ∀ p ∈ L, p.1 ≠ d) {l : List (Nat × Vt)} (h : ∀ p ∈ L, p ∈ l) : ∀ p ∈ L, p ∈ dropT d l := by
  intro p hp
  have h1 := h p hp
  have h2 := hf p hp
  have h3 := (hL p hp).2
  clear h hp
  induction l with
  | nil => cases h1
  | cons x l ih =>
    unfold dropT
    rcases List.mem_cons.1 h1 with rfl | h1
    · have e1 : Nat.beq p.2.base d = false := by
        cases hh : Nat.beq p.2.base d with
        | false => rfl
        | true => have := Nat.eq_of_beq_eq_true hh; omega
      have e2 : Nat.beq p.1 d = false := by
        cases hh : Nat.beq p.1 d with
        | false => rfl
        | true => exact absurd (Nat.eq_of_beq_eq_true hh) h2
      rw [e1, e2, Bool.or_self, if_neg (by simp)]
      simp
    · split
      · exact ih h1
      · exact List.mem_cons_of_mem _ (ih h1)
theorem free_ok {d : Nat} : ∀ {L : List (Nat × Vt)}, free_ d L = true → ∀ p ∈ L, p.1 ≠ d
  | x :: L, h, p, hp, e => by
    simp only [free_, Bool.and_eq_true] at h
    rcases List.mem_cons.1 hp with rfl | hp
    · have := h.1
      rw [e, Nat.beq_refl] at this
      cases this
    · exact free_ok h.2 p hp e
theorem laid_ne {V d : Nat} {L : List (Nat × Vt)} (hL : Known V L) (hb : bit V d = false) : ∀ p ∈ L, p.1 ≠ d := fun p hp e => by
  have := (hL p hp).1
  rw [e, hb] at this
  cases this
theorem putG_lt {dst : Option Tmp} {put : Env → AV → Env} (hp : putG N dst = some put) : ∀ d, dst = some d → d < 256 := by
  intro d hd
  subst hd
  simp only [putG] at hp
  split at hp
  · rename_i hc
    simp only [Bool.and_eq_true] at hc
    exact blt_t hc.2
  · cases hp
theorem next_known {V : Nat} {L l : List (Nat × Vt)} (hL : Known V L) {dst : Option Tmp} {put : Env → AV → Env} (hp : putG N dst = some put) (hl : laid V dst = true) (h : ∀ p ∈ L, p ∈ l) : ∀ p ∈ L, p ∈ (next ⟨V, l⟩ dst).l := by
  cases dst with
  | none => exact h
  | some d => exact hL.next (putG_lt hp d rfl) (laid_ne hL (by simpa [laid] using hl)) h
theorem opersX_ok {L : List (Nat × Vt)} : ∀ (l : List Oper) (σ : Sg) (z : XE), Known σ.V L → (∀ p ∈ L, p ∈ σ.l) → opersX P N L ops σ l = some z → ∀ {r : RecT}, RecOk P r → ∀ {e : Env} {h : H} {n : Nat} {k : KE} {ts : List AV} {s : AS}, ER σ N e ts → HR h n s → z r e h n k = true →
    ∃ ts' s' e' h' n', StepsR P ops l ts s ts' s' ∧ ER ⟨σ.V, L⟩ N e' ts' ∧ HR h' n' s' ∧ k e' h' n' = true
  | [], σ, z, hL, hin, hz, r, hr, e, h, n, k, ts, s, E, R, hh => by
    simp only [opersX, Option.some.injEq] at hz
    subst hz
    exact ⟨ts, s, e, h, n, ⟨rfl, rfl⟩, E.drop hin, R, hh⟩
  | o :: l, σ, z, hL, hin, hz, r, hr, e, h, n, k, ts, s, E, R, hh => by
    have real : ∀ y, opersX P N L ops (next σ o.dst) l = some y → operX P N σ ops o y = some z → ∃ ts' s' e' h' n', StepsR P ops (o :: l) ts s ts' s' ∧ ER ⟨σ.V, L⟩ N e' ts' ∧ HR h' n' s' ∧ k e' h' n' = true := by
      intro y hy ho
      have hV : (next σ o.dst).V = σ.V := by cases o.dst <;> rfl
      have hin' : ∀ p ∈ L, p ∈ (next σ o.dst).l := by
        have ho' := ho
        unfold operX at ho'
        split at ho'
        · rename_i hl
          split at ho'
          · rename_i put hp
            exact next_known hL hp hl hin
          · cases ho'
        · cases ho'
      obtain ⟨v, s1, e1, h1, n1, a1, a2, a3, a4⟩ := operX_ok ho hr E R hh
      obtain ⟨ts', s', e', h', n', b1, b2, b3, b4⟩ := opersX_ok l (next σ o.dst) y (by rw [hV]; exact hL) hin' hy hr a2 a3 a4
      refine ⟨ts', s', e', h', n', ⟨v, s1, a1, b1⟩, ?_, b3, b4⟩
      rw [hV] at b2
      exact b2
    simp only [opersX] at hz
    split at hz
    · rename_i d hd
      split at hz
      · rename_i hb
        split at hz
        · rename_i vt c hv
          split at hz
          · rename_i hc
            split at hz
            · rename_i y hy
              simp only [Option.some.injEq] at hz
              subst hz
              obtain ⟨g1, g2, g3, g4, g5⟩ := virt_ok hv E hh
              simp only [Bool.and_eq_true] at hc
              have E' := E.virtual (blt_t hc.1.1) (blt_t hc.1.2) hb g4
              obtain ⟨ts', s', e', h', n', b1, b2, b3, b4⟩ := opersX_ok l ⟨σ.V, (d, vt) :: dropT d σ.l⟩ y hL (fun p hp => List.mem_cons_of_mem _ (hL.next (blt_t hc.1.2) (free_ok hc.2) hin p hp)) hy hr E' R g5
              exact ⟨ts', s', e', h', n', ⟨vt.get e, s, sv_val (guard_free g1) (.inl g2) (g3 s), by rw [hd]; exact b1⟩, b2, b3, b4⟩
            · cases hz
          · cases hz
        · cases hz
      · split at hz
        · rename_i y hy
          exact real y (by rw [hd]; exact hy) hz
        · cases hz
    · rename_i hd
      split at hz
      · rename_i y hy
        exact real y (by rw [hd]; exact hy) hz
      · cases hz
end
end Go.Mini.Fast
namespace Go.Mini.Fast
open Go

section
variable {P : Program} {N V : Nat} {L : List (Nat × Vt)} {ops : Array Oper} {bf es : List Nat}

theorem sameK_t {x y : AV} (hh : sameK x y = true) : AV.beq x y = true := by
  cases x with
  | int k a =>
    obtain ⟨k', b, rfl, hh⟩ := onInt_t (v := y) hh
    obtain ⟨h1, h2⟩ := iff_t hh
    have := kEq_t h1
    subst this
    rcases onNat_t h2 with ⟨m, rfl, h3⟩ | h3
    · rcases onNat_t h3 with ⟨n, rfl, h4⟩ | h4
      · have := Nat.eq_of_beq_eq_true h4
        subst this
        simp [AV.beq]
      · exact h4
    · exact h3
  | ptr b o =>
    obtain ⟨c, p, rfl, hh⟩ := onPtr_t (v := y) hh
    obtain ⟨h1, h2⟩ := iff_t hh
    simp only [AV.beq, h1, h2, Bool.and_self]
  | _ => exact hh

/-- What is still to be read again: all that was read. -/
def PInv (P : Program) (ops : Array Oper) (bf es : List Nat) (p : Pend) (tr : List TE) : Prop :=
  ∀ x ∈ tr, ∀ h n s j, HR h n s → p h n j = true → readOk P ops bf es s j x = true
theorem PInv.nil : PInv P ops bf es (fun _ _ _ => true) [] := fun x hx => by cases hx
theorem readOk_not {s : AS} {j : Nat} {x : TE} {o : Oper} (ho : ops[x.i]? = some o) (h : kindOf o.op ≠ .R ∨ wantedA ops x.ts o = false ∨ Nat.ble x.k j = false ∨ Nat.ble j (firstE bf es x.i) = false) : readOk P ops bf es s j x = true := by
  unfold readOk
  rw [ho]
  simp only
  split
  · rename_i hk
    rcases h with h | h | h | h
    · exact absurd hk h
    · rw [h, Bool.false_and, Bool.false_and, if_neg (by simp)]
    · rw [h, Bool.and_false, Bool.false_and, if_neg (by simp)]
    · rw [h, Bool.and_false, if_neg (by simp)]
  · rfl
theorem readOk_yes {s : AS} {j : Nat} {x : TE} {o : Oper} {v : AV} (ho : ops[x.i]? = some o) (hv : valA P x.ts s o.op = some v) (hb : AV.beq v x.v = true) : readOk P ops bf es s j x = true := by
  unfold readOk
  rw [ho]
  simp only
  split
  · split
    · split
      · rfl
      · rw [hv]; exact hb
    · rfl
  · rfl
theorem PInv.add {p q : Pend} {tr : List TE} {x : TE} (hp : PInv P ops bf es p tr) (hq : ∀ h n s j, HR h n s → q h n j = true → readOk P ops bf es s j x = true) : PInv P ops bf es (pendK q p) (x :: tr) := by
  intro y hy h n s j R hh
  obtain ⟨h1, h2⟩ := iff_t (show ite' (q h n j) (p h n j) false = true from hh)
  rcases List.mem_cons.1 hy with rfl | hy
  · exact hq h n s j R h1
  · exact hp y hy h n s j R h2
theorem PInv.cons {p : Pend} {tr : List TE} {x : TE} (hp : PInv P ops bf es p tr) (hq : ∀ s j, readOk P ops bf es s j x = true) : PInv P ops bf es p (x :: tr) := by
  intro y hy h n s j R hh
  rcases List.mem_cons.1 hy with rfl | hy
  · exact hq s j
  · exact hp y hy h n s j R hh

/-- One operation of a region that draws its order. -/
theorem operD_ok (hL : Known V L) {i last : Nat} {o : Oper} {z : XD} (ho : ops[i]? = some o) (hz : operD P N V L ops last o = some z) (hl : isE o = true ∨ last = firstE bf es i) {r : RecT} (hr : RecOk P r) {e : Env} {h : H} {n : Nat} {p : Pend} {k : Env → H → Nat → Pend → Bool} {ts : List AV} {s : AS}
    {tr : List TE} (j : Nat) (E : ER ⟨V, L⟩ N e ts) (R : HR h n s) (I : PInv P ops bf es p tr) (hh : z r e h n p k = true) :
    ∃ v s' e' h' n' p', SV P ops o ts s v s' ∧ ER ⟨V, L⟩ N e' (putA ts o.dst v) ∧ HR h' n' s' ∧ PInv P ops bf es p' (⟨i, ts, s.nx, j, v, s.h.wr⟩ :: tr) ∧ k e' h' n' p' = true := by
  unfold operD at hz
  split at hz
  case isFalse => cases hz
  rename_i hla
  split at hz
  case h_2 => cases hz
  rename_i put hp
  split at hz
  case h_2 => cases hz
  rename_i x hx
  have hX : XoOk P ⟨V, L⟩ N o.op (compOp P ⟨V, L⟩ o.op) := compOp_ok o.op
  have hput : ∀ v, ER ⟨V, L⟩ N (put e v) (putA ts o.dst v) := fun v => by
    have := put_ok hp hla E v
    have hV : (next ⟨V, L⟩ o.dst).V = V := by cases o.dst <;> rfl
    have h2 := this.drop (next_known hL hp hla (fun p hp => hp))
    rw [hV] at h2
    exact h2
  -- done
  have done : ∀ {k}, Done_ ops o ts true → x r e h n p k = true → ∃ v s' e' h' n' p', SV P ops o ts s v s' ∧ ER ⟨V, L⟩ N e' (putA ts o.dst v) ∧ HR h' n' s' ∧ PInv P ops bf es p' (⟨i, ts, s.nx, j, v, s.h.wr⟩ :: tr) ∧ k e' h' n' p' = true := by
    intro k hdo hh
    cases hc : compOp P ⟨V, L⟩ o.op with
    | mov g =>
      rw [hc] at hx hX
      simp only [doD, Option.some.injEq] at hx
      subst hx
      exact ⟨g e, s, _, h, n, p, sv_val hdo (.inl hX.1) (hX.2 e ts E s), hput _, R, I.cons fun s j => readOk_not ho (.inl (by rw [hX.1]; nofun)), hh⟩
    | pur f =>
      rw [hc] at hx hX
      simp only [doD, Option.some.injEq] at hx
      subst hx
      obtain ⟨v, h1, h2⟩ := hX.2 e ts E _ hh
      exact ⟨v, s, _, h, n, p, sv_val hdo (.inl hX.1) (h1 s), hput _, R, I.cons fun s j => readOk_not ho (.inl (by rw [hX.1]; nofun)), h2⟩
    | rd f =>
      rw [hc] at hx hX
      simp only [doD, Option.some.injEq] at hx
      subst hx
      obtain ⟨v, h1, h2⟩ := hX.2 e ts h n s E R _ hh
      refine ⟨v, s, _, h, n, _, sv_val hdo (.inr hX.1) h1, hput _, R, I.add (fun h' n' s' j' R' hq => ?_), h2⟩
      have hE : isE o = false := by unfold isE; rw [hX.1]
      have hlast : last = firstE bf es i := by
        rcases hl with hl | hl
        · rw [hE] at hl; cases hl
        · exact hl
      rcases ite_t (show ite' (Nat.ble j' last) (f e h' n' fun v' => sameK v' v) true = true from hq) with ⟨h3, h4⟩ | ⟨h3, _⟩
      · obtain ⟨v', h5, h6⟩ := hX.2 e ts h' n' s' E R' _ h4
        exact readOk_yes ho h5 (sameK_t h6)
      · exact readOk_not ho (.inr (.inr (.inr (by rw [← hlast]; exact h3))))
    | alc f =>
      rw [hc] at hx hX
      simp only [doD, Option.some.injEq] at hx
      subst hx
      obtain ⟨v, ob, h1, h2⟩ := hX.2 e ts n E _ hh
      obtain ⟨h', R', h3⟩ := pushK_t R h2
      exact ⟨v, s.push ob, _, h', n + 1, p, sv_alloc hdo hX.1 (by rw [R.nx]; exact h1), hput _, R', I.cons fun s j => readOk_not ho (.inl (by rw [hX.1]; nofun)), h3⟩
    | eff f =>
      rw [hc] at hx hX
      simp only [doD, Option.some.injEq] at hx
      subst hx
      obtain ⟨v, h', n', s', h1, h2, h3⟩ := hX.2 r e ts h n s hr E R _ hh
      exact ⟨v, s', _, h', n', p, sv_eff hdo hX.1 h1, hput _, h2, I.cons fun s j => readOk_not ho (.inl (by rw [hX.1]; nofun)), h3⟩
    | bad => rw [hc] at hx; simp [doD] at hx
  cases hg : guardG P ⟨V, L⟩ ops o with
  | free =>
    rw [hg] at hz
    simp only [guardD, Option.some.injEq] at hz
    subst hz
    exact done (guard_free (guardG_free hg)) hh
  | on g want =>
    rw [hg] at hz
    simp only [guardD, Option.some.injEq] at hz
    subst hz
    obtain ⟨j', d, k1, k2, k3⟩ := guardG_ok hg
    have hv : tget ts d = g e := by
      have := opG_ok E k3
      simpa [evA] using this
    rcases guard_on k1 k2 hv hh with ⟨hdo, hh⟩ | ⟨hdo, hh⟩
    · exact done hdo hh
    · exact ⟨undefA, s, _, h, n, p, sv_skip hdo, hput _, R, I.cons fun s j => readOk_not ho (.inr (.inl hdo.2)), hh⟩
  | bad => rw [hg] at hz; simp [guardD] at hz

/-- A stage. -/
theorem stageD_ok (hL : Known V L) (j : Nat) : ∀ (l : List Nat) (z : XD), stageD P N V L ops bf es l = some z → ∀ {r : RecT}, RecOk P r → ∀ {e : Env} {h : H} {n : Nat} {p : Pend} {k : Env → H → Nat → Pend → Bool} {ts : List AV} {s : AS} {tr : List TE},
    ER ⟨V, L⟩ N e ts → HR h n s → PInv P ops bf es p tr → z r e h n p k = true →
    ∃ ts' s' tr' e' h' n' p', StageR P ops j l ts s tr ts' s' tr' ∧ ER ⟨V, L⟩ N e' ts' ∧ HR h' n' s' ∧ PInv P ops bf es p' tr' ∧ (∃ new, tr' = new ++ tr ∧ ∀ x ∈ new, x.k = j) ∧ k e' h' n' p' = true
  | [], z, hz, r, hr, e, h, n, p, k, ts, s, tr, E, R, I, hh => by
    simp only [stageD, Option.some.injEq] at hz
    subst hz
    exact ⟨ts, s, tr, e, h, n, p, ⟨rfl, rfl, rfl⟩, E, R, I, ⟨[], rfl, nofun⟩, hh⟩
  | i :: l, z, hz, r, hr, e, h, n, p, k, ts, s, tr, E, R, I, hh => by
    simp only [stageD] at hz
    split at hz
    · rename_i o ho
      split at hz
      · rename_i x hx
        split at hz
        · rename_i y hy
          simp only [Option.some.injEq] at hz
          subst hz
          obtain ⟨v, s1, e1, h1, n1, p1, a1, a2, a3, a4, a5⟩ := operD_ok hL ho hx (.inr rfl) hr j E R I hh
          obtain ⟨ts', s', tr', e', h', n', p', b1, b2, b3, b4, ⟨new, b5, b6⟩, b7⟩ := stageD_ok hL j l y hy hr a2 a3 a4 a5
          refine ⟨ts', s', tr', e', h', n', p', ⟨o, v, s1, ho, a1, b1⟩, b2, b3, b4, ⟨new ++ [⟨i, ts, s.nx, j, v, s.h.wr⟩], by rw [b5]; simp, fun x hx => ?_⟩, b7⟩
          rcases List.mem_append.1 hx with hx | hx
          · exact b6 x hx
          · rw [List.mem_singleton.1 hx]
        · cases hz
      · cases hz
    · cases hz

/-- All heaps that were met read what was read. -/
def HO (P : Program) (ops : Array Oper) (bf es : List Nat) (tr : List TE) (gs : List AS) : Prop := ∀ j s, gs.reverse[j]? = some s → ∀ x ∈ tr, readOk P ops bf es s j x = true
theorem heapsOk_of {tr : List TE} : ∀ {L : List AS} {k : Nat}, (∀ j s, L[j]? = some s → ∀ x ∈ tr, readOk P ops bf es s (k + j) x = true) → heapsOk P ops bf es tr k L = true
  | [], _, _ => rfl
  | s :: L, k, h => by
    simp only [heapsOk, Bool.and_eq_true]
    refine ⟨List.all_eq_true.2 fun x hx => by simpa using h 0 s rfl x hx, heapsOk_of fun j s' hs x hx => ?_⟩
    have := h (j + 1) s' (by simpa using hs) x hx
    rw [show k + 1 + j = k + (j + 1) from by omega]
    exact this
theorem HO.more {tr new : List TE} {gs : List AS} (h : HO P ops bf es tr gs) (hn : ∀ x ∈ new, (∃ o, ops[x.i]? = some o) ∧ gs.length ≤ x.k) : HO P ops bf es (new ++ tr) gs := by
  intro j s hj x hx
  rcases List.mem_append.1 hx with hx | hx
  · obtain ⟨⟨o, ho⟩, hk⟩ := hn x hx
    refine readOk_not ho (.inr (.inr (.inl ?_)))
    have hlt : j < gs.length := by
      have := (List.getElem?_eq_some_iff.1 hj).1
      simpa using this
    cases hb : Nat.ble x.k j with
    | false => rfl
    | true => have := Nat.le_of_ble_eq_true hb; omega
  · exact h j s hj x hx
theorem HO.push {tr : List TE} {gs : List AS} {s : AS} (h : HO P ops bf es tr gs) (hs : ∀ x ∈ tr, readOk P ops bf es s gs.length x = true) : HO P ops bf es tr (s :: gs) := by
  intro j s' hj x hx
  rw [List.reverse_cons, List.getElem?_append] at hj
  split at hj
  · exact h j s' hj x hx
  · rename_i hlt
    rw [List.length_reverse] at hj hlt
    cases hjj : j - gs.length with
    | zero =>
      rw [hjj] at hj
      simp only [List.getElem?_cons_zero, Option.some.injEq] at hj
      subst hj
      rw [show j = gs.length from by omega]
      exact hs x hx
    | succ m => rw [hjj] at hj; simp at hj
theorem stage_idx (j : Nat) : ∀ {l : List Nat} {ts : List AV} {s : AS} {tr : List TE} {ts' : List AV} {s' : AS} {tr' : List TE}, StageR P ops j l ts s tr ts' s' tr' → ∀ {new : List TE}, tr' = new ++ tr → ∀ x ∈ new, ∃ o, ops[x.i]? = some o
  | [], ts, s, tr, ts', s', tr', h, new, e, x, hx => by
    obtain ⟨_, _, rfl⟩ := h
    have : new = [] := by
      have := congrArg List.length e
      simp at this
      exact this
    subst this
    cases hx
  | i :: l, ts, s, tr, ts', s', tr', h, new, e, x, hx => by
    obtain ⟨o, v, s1, ho, _, h⟩ := h
    have len : ∀ {l : List Nat} {ts : List AV} {s : AS} {tr : List TE} {ts' : List AV} {s' : AS} {tr' : List TE}, StageR P ops j l ts s tr ts' s' tr' → ∃ m, tr' = m ++ tr := by
      intro l
      induction l with
      | nil => intro ts s tr ts' s' tr' h; exact ⟨[], h.2.2⟩
      | cons i l ih =>
        intro ts s tr ts' s' tr' h
        obtain ⟨o, v, s1, _, _, h⟩ := h
        obtain ⟨m, hm⟩ := ih h
        exact ⟨m ++ [_], by rw [hm, List.append_assoc]; rfl⟩
    obtain ⟨m, hm⟩ := len h
    have : new = m ++ [⟨i, ts, s.nx, j, v, s.h.wr⟩] := by
      rw [hm] at e
      have : (m ++ [⟨i, ts, s.nx, j, v, s.h.wr⟩]) ++ tr = new ++ tr := by rw [List.append_assoc]; exact e
      exact (List.append_cancel_right this).symm
    subst this
    rcases List.mem_append.1 hx with hx | hx
    · exact stage_idx j h hm x hx
    · rw [List.mem_singleton.1 hx]
      exact ⟨o, ho⟩

theorem stagesD_ok (hL : Known V L) : ∀ (rest : List Nat) (j : Nat) (z : XD), stagesD P N V L ops bf es rest j = some z → (∀ i ∈ rest, ∃ o, ops[i]? = some o ∧ isE o = true) → ∀ {r : RecT}, RecOk P r →
    ∀ {e : Env} {h : H} {n : Nat} {p : Pend} {k : Env → H → Nat → Pend → Bool} {ts : List AV} {s : AS} {tr : List TE} {gs : List AS}, ER ⟨V, L⟩ N e ts → HR h n s → PInv P ops bf es p tr → gs.length = j → HO P ops bf es tr gs → z r e h n p k = true →
    ∃ ts' s' tr' gs' e' h' n' p', StagesR P ops bf es rest j ts s tr gs ts' s' tr' gs' ∧ HO P ops bf es tr' gs' ∧ ER ⟨V, L⟩ N e' ts' ∧ HR h' n' s' ∧ k e' h' n' p' = true
  | [], j, z, hz, he, r, hr, e, h, n, p, k, ts, s, tr, gs, E, R, I, hgs, ho, hh => by
    unfold stagesD at hz
    split at hz
    · rename_i x hx
      simp only [Option.some.injEq] at hz
      subst hz
      obtain ⟨ts', s', tr', e', h', n', p', a1, a2, a3, a4, ⟨new, a5, a6⟩, a7⟩ := stageD_ok hL j _ x hx hr E R I hh
      obtain ⟨c1, c2⟩ := iff_t (show ite' (p' h' n' j) (k e' h' n' p') false = true from a7)
      refine ⟨ts', s', tr', s' :: gs, e', h', n', p', ⟨a1, rfl⟩, ?_, a2, a3, c2⟩
      have h1 : HO P ops bf es tr' gs := by
        rw [a5]
        exact ho.more fun x hx => ⟨stage_idx j a1 a5 x hx, by rw [hgs, a6 x hx]; exact Nat.le_refl _⟩
      exact h1.push fun x hx => by rw [hgs]; exact a4 x hx h' n' s' j a3 c1
    · cases hz
  | i :: rest, j, z, hz, he, r, hr, e, h, n, p, k, ts, s, tr, gs, E, R, I, hgs, ho, hh => by
    unfold stagesD at hz
    split at hz
    · rename_i x hx
      dsimp only at hz
      split at hz
      · rename_i o hoo
        split at hz
        · rename_i y hy
          split at hz
          · rename_i w hw
            simp only [Option.some.injEq] at hz
            subst hz
            obtain ⟨ts1, s1, tr1, e1, h1, n1, p1, a1, a2, a3, a4, ⟨new, a5, a6⟩, a7⟩ := stageD_ok hL j _ x hx hr E R I hh
            obtain ⟨c1, c2⟩ := iff_t (show ite' (p1 h1 n1 j) (y r e1 h1 n1 p1 fun e h n p => w r e h n p k) false = true from a7)
            have hE : isE o = true := by
              obtain ⟨o', h1, h2⟩ := he i (by simp)
              rw [hoo] at h1
              simp only [Option.some.injEq] at h1
              rw [h1]; exact h2
            obtain ⟨v, s2, e2, h2, n2, p2, b1, b2, b3, b4, b5⟩ := operD_ok hL hoo hy (.inl hE) hr j a2 a3 a4 c2
            have q1 : HO P ops bf es tr1 gs := by
              rw [a5]
              exact ho.more fun x hx => ⟨stage_idx j a1 a5 x hx, by rw [hgs, a6 x hx]; exact Nat.le_refl _⟩
            have q2 : HO P ops bf es tr1 (s1 :: gs) := q1.push fun x hx => by rw [hgs]; exact a4 x hx h1 n1 s1 j a3 c1
            have q3 : HO P ops bf es (⟨i, ts1, s1.nx, j, v, s1.h.wr⟩ :: tr1) (s1 :: gs) := by
              intro j' s' hj' x hx
              rcases List.mem_cons.1 hx with rfl | hx
              · refine readOk_not hoo (.inl ?_)
                intro hk
                unfold isE at hE
                rw [hk] at hE
                cases hE
              · exact q2 j' s' hj' x hx
            obtain ⟨ts', s', tr', gs', e', h', n', p', d1, d2, d3, d4, d5⟩ := stagesD_ok hL rest (j + 1) w hw (fun i hi => he i (by simp [hi])) hr b2 b3 b4 (by simp [hgs]) q3 b5
            exact ⟨ts', s', tr', gs', e', h', n', p', ⟨ts1, s1, tr1, o, v, s2, a1, hoo, b1, d1⟩, d2, d3, d4, d5⟩
          · cases hz
        · cases hz
      · cases hz
    · cases hz
end
theorem drawX_ok {P : Program} {N V : Nat} {L : List (Nat × Vt)} (hL : Known V L) {ops : Array Oper} {z : XE} (hz : drawX P N V L ops = some z) {r : RecT} (hr : RecOk P r) {e : Env} {h : H} {n : Nat} {k : KE} {ts : List AV} {s : AS} (E : ER ⟨V, L⟩ N e ts) (R : HR h n s) (hh : z r e h n k = true) :
    ∃ ts' s' tr gs e' h' n', StagesR P ops (befores ops) (effsOf ops.toList 0) (effsOf ops.toList 0) 0 ts s [] [] ts' s' tr gs ∧ heapsOk P ops (befores ops) (effsOf ops.toList 0) tr 0 gs.reverse = true ∧ ER ⟨V, L⟩ N e' ts' ∧ HR h' n' s' ∧ k e' h' n' = true := by
  unfold drawX at hz
  split at hz
  · rename_i x hx
    simp only [Option.some.injEq] at hz
    subst hz
    obtain ⟨ts', s', tr', gs', e', h', n', p', d1, d2, d3, d4, d5⟩ := stagesD_ok hL _ 0 x hx (fun i hi => by
      obtain ⟨_, o, h1, h2⟩ := effsOf_mem.1 hi
      exact ⟨o, by simpa using h1, h2⟩) hr (gs := []) E R PInv.nil rfl (fun j s hj => by simp at hj) hh
    exact ⟨ts', s', tr', gs', e', h', n', d1, heapsOk_of fun j s hj x hx => by rw [Nat.zero_add]; exact d2 j s hj x hx, d3, d4, d5⟩
  · cases hz
end Go.Mini.Fast
namespace Go.Mini.Fast
open Go Go.RowKit

/-- All regions that draw their order are well-formed. -/
def drawsC : Code → Bool
  | .region _ ops d => !d || drawOk ops
  | .seq a b => drawsC a && drawsC b
  | .cond _ a b => drawsC a && drawsC b
  | .block _ a => drawsC a
  | .loop a => drawsC a
  | .scope a => drawsC a
  | _ => true

section
variable {P : Program} {N V : Nat} {L : List (Nat × Vt)}
/-- What a run of a code says of the model's, with gotos. -/
def SoundC (P : Program) (c : Code) (ts : List AV) (s : AS) (r : Res) : Prop := ∀ (B : Base) (ρ : Ren) (a : Act) (w : World), Rel P B ρ s w → TR ρ ts a →
  c.wp P (fun e a' w' => e = r.e.out ∧ ∃ ρ', TR ρ' r.ts a' ∧ Post P B ρ s w ρ' r.s w') a w
theorem SoundC.sound {c : Code} {ts : List AV} {s : AS} {r : Res} (h : SoundC P c ts s r) (hg : ∀ l, r.e ≠ .goto l) : Sound P (.code c ts s) r := ⟨hg, h⟩

theorem steps_wp {ops : Array Oper} {B : Base} {Q : Exit → Act → World → Prop} : ∀ (l : List Oper) (k : Nat) (ts : List AV) (s : AS) (ts' : List AV) (s' : AS) (ρ : Ren) (a : Act) (w : World),
    (∀ j o, l[j]? = some o → ops[k + j]? = some o) → StepsR P ops l ts s ts' s' → Rel P B ρ s w → TR ρ ts a →
    (∀ ρ' a' w', TR ρ' ts' a' → Post P B ρ s w ρ' s' w' → Q .normal a' w') → wpOps P ops Q (List.range' k l.length) a w
  | [], k, ts, s, ts', s', ρ, a, w, _, h, R, ht, hQ => by
    obtain ⟨rfl, rfl⟩ := h
    simp only [List.length_nil, List.range'_zero, wpOps]
    exact hQ ρ a w ht (.refl R)
  | o :: l, k, ts, s, ts', s', ρ, a, w, hl, h, R, ht, hQ => by
    obtain ⟨v, s1, ⟨rec, hrec, hv⟩, h⟩ := h
    simp only [List.length_cons, List.range'_succ]
    rw [wpOps_cons]
    refine stepOp_sound hrec (ts' := putA ts o.dst v) (s' := s1) (by simpa using hl 0 o (by simp)) (by simp only [stepOp, hv]) R ht fun ρ1 a1 w1 ht1 hp1 => ?_
    refine steps_wp l (k + 1) _ s1 ts' s' ρ1 a1 w1 (fun j o' hj => ?_) h hp1.rel ht1 fun ρ2 a2 w2 ht2 hp2 => hQ ρ2 a2 w2 ht2 (hp1.trans hp2)
    rw [show k + 1 + j = k + (j + 1) from by omega]
    exact hl (j + 1) o' (by simpa using hj)
theorem region_steps {id : Nat} {ops : Array Oper} {ts ts' : List AV} {s s' : AS} (h : StepsR P ops ops.toList ts s ts' s') : SoundC P (.region id ops false) ts s ⟨.normal, ts', s'⟩ := by
  intro B ρ a w R ht
  refine wp_region ?_
  have := steps_wp (Q := fun e a' w' => e = Exit.normal ∧ ∃ ρ', TR ρ' ts' a' ∧ Post P B ρ s w ρ' s' w') ops.toList 0 ts s ts' s' ρ a w (fun j o hj => by simpa using hj) h R ht (fun ρ' a' w' ht' hp' => ⟨rfl, ρ', ht', hp'⟩)
  rw [List.range_eq_range', ← Array.length_toList]
  exact this

theorem seq_nextC {x y : Code} {ts ts1 : List AV} {s s1 : AS} {r : Res} (hx : SoundC P x ts s ⟨.normal, ts1, s1⟩) (hy : SoundC P y ts1 s1 r) : SoundC P (.seq x y) ts s r := by
  intro B ρ a w R ht
  refine wp_seq (wp_mono (hx B ρ a w R ht) ?_)
  rintro e a1 w1 ⟨rfl, ρ1, ht1, hp1⟩
  refine wp_mono (hy B ρ1 a1 w1 hp1.rel ht1) ?_
  rintro e a2 w2 ⟨rfl, ρ2, ht2, hp2⟩
  exact ⟨rfl, ρ2, ht2, hp1.trans hp2⟩
theorem seq_stopC {x y : Code} {ts : List AV} {s : AS} {r : Res} (hx : SoundC P x ts s r) (hne : r.e ≠ .normal) : SoundC P (.seq x y) ts s r := by
  intro B ρ a w R ht
  refine wp_seq (wp_mono (hx B ρ a w R ht) ?_)
  rintro e a1 w1 ⟨rfl, ρ1, ht1, hp1⟩
  obtain ⟨e, ts1, s1⟩ := r
  cases e with
  | normal => exact absurd rfl hne
  | exit id => exact ⟨rfl, ρ1, ht1, hp1⟩
  | goto l => exact ⟨rfl, ρ1, ht1, hp1⟩
  | ret => exact ⟨rfl, ρ1, ht1, hp1⟩
theorem block_exitC {id : Nat} {c : Code} {ts ts' : List AV} {s s' : AS} (hx : SoundC P c ts s ⟨.exit id, ts', s'⟩) : SoundC P (.block id c) ts s ⟨.normal, ts', s'⟩ := by
  intro B ρ a w R ht
  refine wp_block (wp_mono (hx B ρ a w R ht) ?_)
  rintro e a1 w1 ⟨rfl, ρ1, ht1, hp1⟩
  show (if id = id then _ else _)
  rw [if_pos rfl]
  exact ⟨rfl, ρ1, ht1, hp1⟩
theorem block_pastC {id : Nat} {c : Code} {ts : List AV} {s : AS} {r : Res} (hx : SoundC P c ts s r) (hid : r.e ≠ .exit id) : SoundC P (.block id c) ts s r := by
  intro B ρ a w R ht
  refine wp_block (wp_mono (hx B ρ a w R ht) ?_)
  rintro e a1 w1 ⟨rfl, ρ1, ht1, hp1⟩
  obtain ⟨e, ts1, s1⟩ := r
  cases e with
  | normal => exact ⟨rfl, ρ1, ht1, hp1⟩
  | exit id' =>
    show (if id' = id then _ else _)
    rw [if_neg (fun e => hid (by rw [e]))]
    exact ⟨rfl, ρ1, ht1, hp1⟩
  | goto l => exact ⟨rfl, ρ1, ht1, hp1⟩
  | ret => exact ⟨rfl, ρ1, ht1, hp1⟩
theorem scopeC {c : Code} {ts : List AV} {s : AS} {r : Res} (hx : SoundC P c ts s r) (hg : ∀ l, r.e ≠ .goto l) : SoundC P (.scope c) ts s r := (scope_sound (hx.sound hg)).2
theorem jumpC {c b : Code} {l : Nat} {ts ts1 : List AV} {s s1 : AS} {r : Res} (hf : findLabel c l = some b) (hx : SoundC P c ts s ⟨.goto l, ts1, s1⟩) (hy : SoundC P b ts1 s1 r) (hg : ∀ l, r.e ≠ .goto l) : SoundC P (.scope c) ts s r := by
  intro B ρ a w R ht
  refine wp_scope_jumps l (fun a' w' => ∃ ρ', TR ρ' ts1 a' ∧ Post P B ρ s w ρ' s1 w') (fun _ _ => 0) hf (wp_mono (hx B ρ a w R ht) ?_) ?_
  · rintro e a1 w1 ⟨rfl, ρ1, ht1, hp1⟩
    exact ⟨rfl, ρ1, ht1, hp1⟩
  · rintro a1 w1 ⟨ρ1, ht1, hp1⟩
    refine wp_mono (hy B ρ1 a1 w1 hp1.rel ht1) ?_
    rintro e a2 w2 ⟨rfl, ρ2, ht2, hp2⟩
    obtain ⟨e, ts2, s2⟩ := r
    cases e with
    | normal => exact ⟨rfl, ρ2, ht2, hp1.trans hp2⟩
    | exit id => exact ⟨rfl, ρ2, ht2, hp1.trans hp2⟩
    | goto l => exact absurd rfl (hg l)
    | ret => exact ⟨rfl, ρ2, ht2, hp1.trans hp2⟩
theorem keepC {f : FuncId} {fn : Func} {c : Code} {args ts vs : List AV} {s s' : AS} {e : AExit} (hf : P.funcs[f]? = some fn) (hb : fn.body = some c)
    (hx : SoundC P c (args ++ List.replicate (fn.ntmps - args.length) undefA) ⟨⟨s.h.bs, s.h.len, none, []⟩, s.nx⟩ ⟨e, ts, s'⟩) (he : e = .normal ∨ e = .ret) (hvs : resultsA P ts s' fn.results.toList = some vs) :
    Sound P (.call f args s) ⟨.ret, [oneOrTuple vs], ⟨⟨s'.h.bs, s'.h.len, none, olds s.nx s'.h.wr s.h.wr⟩, s'.nx⟩⟩ := by
  intro B ρ cargs w R hargs
  have R0 : Rel P B ρ ⟨⟨s.h.bs, s.h.len, none, []⟩, s.nx⟩ w := R.congr (fun _ => rfl) rfl rfl
  have ht0 : TR ρ (args ++ List.replicate (fn.ntmps - args.length) undefA) { tmps := cargs.toArray ++ Array.replicate (fn.ntmps - cargs.toArray.size) undef, defers := [] } := by
    refine ⟨?_, rfl⟩
    have hl := hargs.length
    simp only [Array.toList_append, Array.toList_replicate, List.size_toArray]
    rw [← hl]
    exact hargs.append (VRels.replicate _ vrel_undef)
  refine calls_of_wp hf hb (wp_mono (hx B ρ _ w R0 ht0) ?_)
  rintro e' a1 w1 ⟨rfl, ρ1, ht1, hp1⟩
  obtain ⟨u, hu, hr⟩ := results_all hp1.rel ht1 hvs
  have hpost : Post P B ρ s w ρ1 ⟨⟨s'.h.bs, s'.h.len, none, olds s.nx s'.h.wr s.h.wr⟩, s'.nx⟩ w1 := by
    obtain ⟨hnx, ⟨ks, h2, h3, h4⟩, lg, h5, h6⟩ := hp1.shape
    have hlog : olds s.nx s'.h.wr s.h.wr = (lg.filter fun b => Nat.blt b s.nx) ++ s.h.wr := by
      rw [olds_eq]
      congr 2
      simpa using h5
    have hin : ∀ b, b < s.nx → b ∉ (lg.filter fun b => Nat.blt b s.nx) → b ∉ lg := fun b hb hn hm => hn (List.mem_filter.2 ⟨hm, by simpa using hb⟩)
    exact ⟨hp1.rel.congr (fun _ => rfl) rfl rfl, hp1.ext, hp1.unt, ⟨hnx, ⟨ks, h2, h3, h4⟩, _, hlog, fun b hb hn => h6 b hb (hin b hb hn)⟩, hp1.size⟩
  rcases he with rfl | rfl
  · exact ⟨ht1.df, u, hu, _, u, ρ1, rfl, rfl, hr, hpost⟩
  · exact ⟨ht1.df, u, hu, _, u, ρ1, rfl, rfl, hr, hpost⟩

/-! ### code, turned -/
def CxOk (P : Program) (N V : Nat) (L : List (Nat × Vt)) (c : Code) (x : Cx) : Prop := ∀ r F e h n K ts s, RecOk P r → ER ⟨V, L⟩ N e ts → HR h n s → x r F e h n K = true →
  ∃ ex ts' s' e' h' n', SoundC P c ts s ⟨ex, ts', s'⟩ ∧ ER ⟨V, L⟩ N e' ts' ∧ HR h' n' s' ∧ K ex e' h' n' = true
theorem onNormal_t {ex : AExit} {x y : Bool} (h : onNormal ex x y = true) : (ex = .normal ∧ x = true) ∨ (ex ≠ .normal ∧ y = true) := by
  cases ex <;> first | exact .inl ⟨rfl, h⟩ | exact .inr ⟨nofun, h⟩
theorem onExit_t {ex : AExit} {f : Nat → Bool} {y : Bool} (h : onExit ex f y = true) : (∃ i, ex = .exit i ∧ f i = true) ∨ ((∀ i, ex ≠ .exit i) ∧ y = true) := by
  cases ex <;> first | exact .inl ⟨_, rfl, h⟩ | exact .inr ⟨nofun, h⟩
theorem onGoto_t {ex : AExit} {f : Nat → Bool} {y : Bool} (h : onGoto ex f y = true) : (∃ i, ex = .goto i ∧ f i = true) ∨ ((∀ i, ex ≠ .goto i) ∧ y = true) := by
  cases ex <;> first | exact .inl ⟨_, rfl, h⟩ | exact .inr ⟨nofun, h⟩
theorem noGoto_t {ex : AExit} {y : Bool} (h : noGoto ex y = true) : (∀ i, ex ≠ .goto i) ∧ y = true := by
  cases ex <;> first | exact no h | exact ⟨nofun, h⟩
theorem loopX_ok {c : Code} {x : Cx} (hx : CxOk P N V L c x) : CxOk P N V L (.loop c) (loopX x) := by
  intro r F e h n K ts s hr E R hh
  have go : ∀ (G : Nat) (e : Env) (h : H) (n : Nat) (ts : List AV) (s : AS), ER ⟨V, L⟩ N e ts → HR h n s →
      Nat.rec (motive := fun _ => KE) (fun _ _ _ => false) (fun _ ih e h n => x r F e h n fun ex e h n => onNormal ex (ih e h n) (noGoto ex (K ex e h n))) G e h n = true →
      ∃ ex ts' s' e' h' n', Sound P (.code (.loop c) ts s) ⟨ex, ts', s'⟩ ∧ ER ⟨V, L⟩ N e' ts' ∧ HR h' n' s' ∧ K ex e' h' n' = true := by
    intro G
    induction G with
    | zero => intro e h n ts s _ _ hh; exact no hh
    | succ G ih =>
      intro e h n ts s E R hh
      obtain ⟨ex, ts1, s1, e1, h1, n1, a1, a2, a3, a4⟩ := hx r F e h n _ ts s hr E R hh
      rcases onNormal_t a4 with ⟨rfl, a5⟩ | ⟨hne, a5⟩
      · obtain ⟨ex, ts', s', e', h', n', b1, b2, b3, b4⟩ := ih e1 h1 n1 ts1 s1 a2 a3 a5
        exact ⟨ex, ts', s', e', h', n', loop_next (a1.sound nofun) b1, b2, b3, b4⟩
      · obtain ⟨hg, a6⟩ := noGoto_t a5
        exact ⟨ex, ts1, s1, e1, h1, n1, loop_stop (a1.sound hg) hne, a2, a3, a6⟩
  obtain ⟨ex, ts', s', e', h', n', b1, b2, b3, b4⟩ := go F e h n ts s E R hh
  exact ⟨ex, ts', s', e', h', n', b1.2, b2, b3, b4⟩
/-- The regions of a code. -/
def regs : Code → List (Nat × Array Oper × Bool)
  | .region id ops d => [(id, ops, d)]
  | .seq a b => regs a ++ regs b
  | .cond _ a b => regs a ++ regs b
  | .block _ a => regs a
  | .loop a => regs a
  | .scope a => regs a
  | _ => []
/-- Regions that are told by hand are told right. -/
def OvOk (P : Program) (N V : Nat) (L : List (Nat × Vt)) (ov : Nat → Option Cx) (c : Code) : Prop := ∀ p ∈ regs c, ∀ x, ov p.1 = some x → CxOk P N V L (.region p.1 p.2.1 p.2.2) x
theorem compC_ok (hm : P.follows .mixedOrders = true) (hL : Known V L) {ov : Nat → Option Cx} : ∀ (c : Code) (x : Cx), drawsC c = true → OvOk P N V L ov c → compC P N V L ov c = some x → CxOk P N V L c x
  | .skip, x, _, _, hc => by
    simp only [compC, Option.some.injEq] at hc
    subst hc
    exact fun r F e h n K ts s hr E R hh => ⟨.normal, ts, s, e, h, n, skip_sound.2, E, R, hh⟩
  | .label l, x, _, _, hc => by
    simp only [compC, Option.some.injEq] at hc
    subst hc
    exact fun r F e h n K ts s hr E R hh => ⟨.normal, ts, s, e, h, n, label_sound.2, E, R, hh⟩
  | .exit id, x, _, _, hc => by
    simp only [compC, Option.some.injEq] at hc
    subst hc
    exact fun r F e h n K ts s hr E R hh => ⟨.exit id, ts, s, e, h, n, exit_sound.2, E, R, hh⟩
  | .ret, x, _, _, hc => by
    simp only [compC, Option.some.injEq] at hc
    subst hc
    exact fun r F e h n K ts s hr E R hh => ⟨.ret, ts, s, e, h, n, ret_sound.2, E, R, hh⟩
  | .goto l, x, _, _, hc => by
    simp only [compC, Option.some.injEq] at hc
    subst hc
    exact fun r F e h n K ts s hr E R hh => ⟨.goto l, ts, s, e, h, n, fun B ρ a w R ht => wp_goto ⟨rfl, ρ, ht, .refl R⟩, E, R, hh⟩
  | .rangeFunc .., x, _, _, hc => by simp [compC] at hc
  | .refuse _, x, _, _, hc => by simp [compC] at hc
  | .region id ops draw, x, hd, hv, hc => by
    simp only [compC] at hc
    split at hc
    · rename_i z hz
      simp only [Option.some.injEq] at hc
      subst hc
      exact hv _ (List.mem_singleton.2 rfl) z hz
    split at hc
    · rename_i z hz
      simp only [Option.some.injEq] at hc
      subst hc
      intro r F e h n K ts s hr E R hh
      cases draw with
      | true =>
        simp only [if_true] at hz
        obtain ⟨ts', s', tr, gs, e', h', n', a1, a2, a3, a4, a5⟩ := drawX_ok hL hz hr E R hh
        exact ⟨.normal, ts', s', e', h', n', fun B ρ a w R ht => drawR_sound hm (by simpa [drawsC] using hd) a1 a2 R ht (fun ρ' a' w' ht' hp' => ⟨rfl, ρ', ht', hp'⟩) id, a3, a4, a5⟩
      | false =>
        simp only [Bool.false_eq_true, if_false] at hz
        obtain ⟨ts', s', e', h', n', a1, a2, a3, a4⟩ := opersX_ok _ _ _ hL (fun p hp => hp) hz hr E R hh
        exact ⟨.normal, ts', s', e', h', n', region_steps a1, a2, a3, a4⟩
    · cases hc
  | .seq a b, x, hd, hv, hc => by
    simp only [drawsC, Bool.and_eq_true] at hd
    simp only [compC] at hc
    split at hc
    · rename_i y hy
      split at hc
      · rename_i z hz
        simp only [Option.some.injEq] at hc
        subst hc
        intro r F e h n K ts s hr E R hh
        obtain ⟨ex, ts1, s1, e1, h1, n1, a1, a2, a3, a4⟩ := compC_ok hm hL a y hd.1 (fun p hp => hv p (by simp only [regs]; exact List.mem_append_left _ hp)) hy r F e h n _ ts s hr E R hh
        rcases onNormal_t a4 with ⟨rfl, a5⟩ | ⟨hne, a5⟩
        · obtain ⟨ex, ts', s', e', h', n', b1, b2, b3, b4⟩ := compC_ok hm hL b z hd.2 (fun p hp => hv p (by simp only [regs]; exact List.mem_append_right _ hp)) hz r F e1 h1 n1 K ts1 s1 hr a2 a3 a5
          exact ⟨ex, ts', s', e', h', n', seq_nextC a1 b1, b2, b3, b4⟩
        · exact ⟨ex, ts1, s1, e1, h1, n1, seq_stopC a1 hne, a2, a3, a5⟩
      · cases hc
    · cases hc
  | .cond g a b, x, hd, hv, hc => by
    simp only [drawsC, Bool.and_eq_true] at hd
    simp only [compC] at hc
    split at hc
    · rename_i gg hg
      split at hc
      · rename_i y hy
        split at hc
        · rename_i z hz
          simp only [Option.some.injEq] at hc
          subst hc
          intro r F e h n K ts s hr E R hh
          have hvv := opG_ok E hg
          rcases onBool_t (v := gg e) hh with ⟨hb, hh⟩ | ⟨hb, hh⟩
          · obtain ⟨ex, ts', s', e', h', n', b1, b2, b3, b4⟩ := compC_ok hm hL a y hd.1 (fun p hp => hv p (by simp only [regs]; exact List.mem_append_left _ hp)) hy r F e h n K ts s hr E R hh
            refine ⟨ex, ts', s', e', h', n', fun B ρ a w R ht => ?_, b2, b3, b4⟩
            have := evA_rel R.glob ht hvv
            rw [hb, vrel_bool] at this
            exact wp_cond_true this (b1 B ρ a w R ht)
          · obtain ⟨ex, ts', s', e', h', n', b1, b2, b3, b4⟩ := compC_ok hm hL b z hd.2 (fun p hp => hv p (by simp only [regs]; exact List.mem_append_right _ hp)) hz r F e h n K ts s hr E R hh
            refine ⟨ex, ts', s', e', h', n', fun B ρ a w R ht => ?_, b2, b3, b4⟩
            have := evA_rel R.glob ht hvv
            rw [hb, vrel_bool] at this
            exact wp_cond_false this (b1 B ρ a w R ht)
        · cases hc
      · cases hc
    · cases hc
  | .block id a, x, hd, hv, hc => by
    simp only [drawsC] at hd
    simp only [compC] at hc
    split at hc
    · rename_i y hy
      simp only [Option.some.injEq] at hc
      subst hc
      intro r F e h n K ts s hr E R hh
      obtain ⟨ex, ts1, s1, e1, h1, n1, a1, a2, a3, a4⟩ := compC_ok hm hL a y hd (fun p hp => hv p (by simp only [regs]; exact hp)) hy r F e h n _ ts s hr E R hh
      rcases onExit_t a4 with ⟨i, rfl, a5⟩ | ⟨hne, a5⟩
      · rcases ite_t a5 with ⟨hi, a6⟩ | ⟨hi, a6⟩
        · have := Nat.eq_of_beq_eq_true hi
          subst this
          exact ⟨.normal, ts1, s1, e1, h1, n1, block_exitC a1, a2, a3, a6⟩
        · exact ⟨.exit i, ts1, s1, e1, h1, n1, block_pastC a1 (fun e => by simp only [AExit.exit.injEq] at e; rw [e, Nat.beq_refl] at hi; cases hi), a2, a3, a6⟩
      · exact ⟨ex, ts1, s1, e1, h1, n1, block_pastC a1 (hne id), a2, a3, a5⟩
    · cases hc
  | .loop a, x, hd, hv, hc => by
    simp only [drawsC] at hd
    simp only [compC] at hc
    split at hc
    · rename_i y hy
      simp only [Option.some.injEq] at hc
      subst hc
      exact loopX_ok (compC_ok hm hL a y hd (fun p hp => hv p (by simp only [regs]; exact hp)) hy)
    · cases hc
  | .scope a, x, hd, hv, hc => by
    simp only [drawsC] at hd
    simp only [compC] at hc
    split at hc
    · rename_i y hy
      simp only [Option.some.injEq] at hc
      subst hc
      intro r F e h n K ts s hr E R hh
      obtain ⟨ex, ts1, s1, e1, h1, n1, a1, a2, a3, a4⟩ := compC_ok hm hL a y hd (fun p hp => hv p (by simp only [regs]; exact hp)) hy r F e h n _ ts s hr E R hh
      obtain ⟨hg, a5⟩ := noGoto_t a4
      exact ⟨ex, ts1, s1, e1, h1, n1, scopeC a1 hg, a2, a3, a5⟩
    · cases hc
end
end Go.Mini.Fast
namespace Go.Mini.Fast
open Go Go.RowKit

section
variable {P : Program} {N V : Nat}
theorem find_draws : ∀ {c b : Code} {l : Nat}, findLabel c l = some b → drawsC c = true → drawsC b = true
  | .seq a c, b, l, hf, hd => by
    simp only [drawsC, Bool.and_eq_true] at hd
    simp only [findLabel] at hf
    split at hf
    · rename_i r hr
      simp only [Option.some.injEq] at hf
      subst hf
      simp only [drawsC, Bool.and_eq_true]
      exact ⟨find_draws hr hd.1, hd.2⟩
    · exact find_draws hf hd.2
  | .label l', b, l, hf, hd => by
    simp only [findLabel] at hf
    split at hf
    · simp only [Option.some.injEq] at hf
      subst hf
      rfl
    · cases hf
  | .skip, _, _, hf, _ => by simp [findLabel] at hf
  | .region .., _, _, hf, _ => by simp [findLabel] at hf
  | .cond .., _, _, hf, _ => by simp [findLabel] at hf
  | .block .., _, _, hf, _ => by simp [findLabel] at hf
  | .loop .., _, _, hf, _ => by simp [findLabel] at hf
  | .rangeFunc .., _, _, hf, _ => by simp [findLabel] at hf
  | .exit .., _, _, hf, _ => by simp [findLabel] at hf
  | .scope .., _, _, hf, _ => by simp [findLabel] at hf
  | .goto .., _, _, hf, _ => by simp [findLabel] at hf
  | .ret, _, _, hf, _ => by simp [findLabel] at hf
  | .refuse .., _, _, hf, _ => by simp [findLabel] at hf
theorem compS_ok (hm : P.follows .mixedOrders = true) {c : Code} {x : Cx} (hd : drawsC c = true) (hc : compS P N V c = some x) : CxOk P N V [] c x := by
  unfold compS at hc
  split at hc
  · rename_i a
    split at hc
    · rename_i l hl
      split at hc
      · rename_i b hb
        split at hc
        · rename_i y hy
          split at hc
          · rename_i z hz
            simp only [Option.some.injEq] at hc
            subst hc
            have hda : drawsC a = true := hd
            intro r F e h n K ts s hr E R hh
            obtain ⟨ex, ts1, s1, e1, h1, n1, a1, a2, a3, a4⟩ := compC_ok hm .nil a y hda (fun _ _ _ h => by cases h) hy r F e h n _ ts s hr E R hh
            rcases onGoto_t a4 with ⟨l', rfl, a5⟩ | ⟨hg, a5⟩
            · obtain ⟨a6, a7⟩ := iff_t a5
              have := Nat.eq_of_beq_eq_true a6
              subst this
              obtain ⟨ex, ts', s', e', h', n', b1, b2, b3, b4⟩ := compC_ok hm .nil b z (find_draws hb hda) (fun _ _ _ h => by cases h) hz r F e1 h1 n1 _ ts1 s1 hr a2 a3 a7
              obtain ⟨hg, b5⟩ := noGoto_t b4
              exact ⟨ex, ts', s', e', h', n', jumpC hb a1 b1 hg, b2, b3, b5⟩
            · exact ⟨ex, ts1, s1, e1, h1, n1, scopeC a1 hg, a2, a3, a5⟩
          · cases hc
        · cases hc
      · cases hc
    · exact compC_ok hm .nil _ x hd (fun _ _ _ h => by cases h) hc
  · exact compC_ok hm .nil _ x hd (fun _ _ _ h => by cases h) hc
theorem compB_ok (hm : P.follows .mixedOrders = true) {c : Code} {x : Cx} (hd : drawsC c = true) (hc : compB P N V c = some x) : CxOk P N V [] c x := by
  unfold compB at hc
  split at hc
  · rename_i a b
    split at hc
    · rename_i y hy
      split at hc
      · rename_i z hz
        simp only [Option.some.injEq] at hc
        subst hc
        simp only [drawsC, Bool.and_eq_true] at hd
        intro r F e h n K ts s hr E R hh
        obtain ⟨ex, ts1, s1, e1, h1, n1, a1, a2, a3, a4⟩ := compC_ok hm .nil a y hd.1 (fun _ _ _ h => by cases h) hy r F e h n _ ts s hr E R hh
        rcases onNormal_t a4 with ⟨rfl, a5⟩ | ⟨hne, a5⟩
        · obtain ⟨ex, ts', s', e', h', n', b1, b2, b3, b4⟩ := compS_ok hm hd.2 hz r F e1 h1 n1 K ts1 s1 hr a2 a3 a5
          exact ⟨ex, ts', s', e', h', n', seq_nextC a1 b1, b2, b3, b4⟩
        · exact ⟨ex, ts1, s1, e1, h1, n1, seq_stopC a1 hne, a2, a3, a5⟩
      · cases hc
    · cases hc
  · exact compS_ok hm hd hc

/-! ### functions -/
theorem resG_ok {rv : ResultVar} {x : Env → H → (AV → Bool) → Bool} (hx : resG P V rv = some x) {e : Env} {h : H} {n : Nat} {ts : List AV} {s : AS} {k : AV → Bool} (E : ER ⟨V, []⟩ N e ts) (R : HR h n s) (hh : x e h k = true) :
    ∃ v, resultA P ts s rv = some v ∧ k v = true := by
  cases rv with
  | tmp t =>
    simp only [resG] at hx
    split at hx
    · rename_i g hg
      simp only [Option.some.injEq] at hx
      subst hx
      have := opG_ok E hg
      simp only [evA, Option.some.injEq] at this
      exact ⟨g e, by simp only [resultA, this], hh⟩
    · cases hx
  | cell a t =>
    simp only [resG] at hx
    split at hx
    · rename_i g ha hg
      simp only [Option.some.injEq] at hx
      subst hx
      have hv := opG_ok E hg
      simp only [evA, Option.some.injEq] at hv
      obtain ⟨b, o, h1, hh⟩ := onPtr_t (v := g e) hh
      obtain ⟨ro, cs, h2, hh⟩ := onCells_t (onB_t hh)
      obtain ⟨v, h3, h4⟩ := nthK_t hh
      exact ⟨v, by simp only [resultA, hv, h1, loadA, ha, R.get _ _ h2, h3], h4⟩
    · rename_i sz g ha hs hg
      simp only [Option.some.injEq] at hx
      subst hx
      have hv := opG_ok E hg
      simp only [evA, Option.some.injEq] at hv
      obtain ⟨b, o, h1, hh⟩ := onPtr_t (v := g e) hh
      obtain ⟨l, h2, h3⟩ := readK_t (f := fun r => k (.agg r)) R hh
      exact ⟨.agg l, by simp only [resultA, hv, h1, loadA, ha, hs, h2], h3⟩
    · cases hx
theorem ressG_ok : ∀ {rs : List ResultVar} {x : Env → H → (List AV → Bool) → Bool}, ressG P V rs = some x → ∀ {e : Env} {h : H} {n : Nat} {ts : List AV} {s : AS} {k : List AV → Bool}, ER ⟨V, []⟩ N e ts → HR h n s → x e h k = true → ∃ vs, resultsA P ts s rs = some vs ∧ k vs = true
  | [], x, hx, e, h, n, ts, s, k, E, R, hh => by
    simp only [ressG, Option.some.injEq] at hx
    subst hx
    exact ⟨[], rfl, hh⟩
  | r :: rs, x, hx, e, h, n, ts, s, k, E, R, hh => by
    simp only [ressG] at hx
    split at hx
    · rename_i y hy
      split at hx
      · rename_i z hz
        simp only [Option.some.injEq] at hx
        subst hx
        obtain ⟨v, h1, h2⟩ := resG_ok hy E R hh
        obtain ⟨vs, h3, h4⟩ := ressG_ok hz E R h2
        exact ⟨v :: vs, by simp only [resultsA, h1, h3], h4⟩
      · cases hx
    · cases hx
theorem oneK_t {l : List AV} {k : AV → Bool} (hh : oneK l k = true) : k (oneOrTuple l) = true := by
  match l, hh with
  | [], hh => exact hh
  | [_], hh => exact hh
  | _ :: _ :: _, hh => exact hh
/-- A function, turned. -/
def XfOk (P : Program) (fn : Func) (c : Code) (x : Xf) : Prop := match x with
  | .ok cx res => ∃ V, CxOk P fn.ntmps V [] c cx ∧ ∀ e h n ts s k, ER ⟨V, []⟩ fn.ntmps e ts → HR h n s → res e h k = true → ∃ vs, resultsA P ts s fn.results.toList = some vs ∧ k (oneOrTuple vs) = true
  | .bad => True
theorem compV_ok (hm : P.follows .mixedOrders = true) {fn : Func} {c : Code} (hd : drawsC c = true) (V : Nat) : XfOk P fn c (compV P fn c V) := by
  unfold compV
  split
  · rename_i x hx
    split
    · rename_i y hy
      split
      · refine ⟨V, compB_ok hm hd hx, fun e h n ts s k E R hh => ?_⟩
        obtain ⟨vs, h1, h2⟩ := ressG_ok hy E R hh
        exact ⟨vs, h1, oneK_t h2⟩
      · trivial
    · trivial
  · trivial
theorem compF_ok (hm : P.follows .mixedOrders = true) {f : FuncId} {cx : Cx} {res : Env → H → (AV → Bool) → Bool} (hd : ∀ fn c, P.funcs[f]? = some fn → fn.body = some c → drawsC c = true) (hx : compF P f = .ok cx res) :
    ∃ fn c, P.funcs[f]? = some fn ∧ fn.body = some c ∧ XfOk P fn c (.ok cx res) := by
  unfold compF at hx
  split at hx
  · rename_i fn hf
    split at hx
    · rename_i c hc
      have h0 := fun V => compV_ok hm (fn := fn) (hd fn c hf hc) V
      refine ⟨fn, c, hf, hc, ?_⟩
      split at hx
      · rename_i x y hxy
        have := h0 (vMask c 0)
        rw [hxy] at this
        cases hx
        exact this
      · have := h0 0
        rw [hx] at this
        exact this
    · cases hx
  · cases hx

theorem all16_get {α : Type} (v : α) (i : Nat) : (ac16 i).get (all16 v) = v := by
  unfold ac16
  split <;> rfl
theorem env0_get {t : Nat} : (acE t).get env0 = undefA := by
  show Ac.get ((ac16 (t / 16)).comp (ac16 (t % 16))) env0 = _
  rw [comp_get, env0, all16_get, all16_get]
theorem sets_drop {i : Nat} : sets.drop i = if i < 24 then (acE i).set :: sets.drop (i + 1) else [] := by
  split
  · rename_i h
    have hl : i < sets.length := by simp [sets, h]
    rw [List.drop_eq_getElem_cons hl]
    simp [sets]
  · rename_i h
    exact List.drop_eq_nil_of_le (by simp [sets]; omega)
theorem iniK_go {f : Env → Bool} : ∀ (args : List AV) (i : Nat) (e : Env), List.rec (motive := fun _ => List (Env → AV → Env) → Env → Bool) (fun _ e => f e) (fun v _ ih S e => List.rec (motive := fun _ => Bool) false (fun s S' _ => ih S' (s e v)) S) args (sets.drop i) e = true →
    ∃ e', f e' = true ∧ ∀ t, t < 256 → (acE t).get e' = if i ≤ t ∧ t < i + args.length then args.getD (t - i) undefA else (acE t).get e
  | [], i, e, hh => ⟨e, hh, fun t _ => by rw [if_neg (by simp only [List.length_nil]; omega)]⟩
  | v :: args, i, e, hh => by
    by_cases hi : i < 24
    · rw [sets_drop, if_pos hi] at hh
      obtain ⟨e', h1, h2⟩ := iniK_go args (i + 1) ((acE i).set e v) hh
      refine ⟨e', h1, fun t ht => ?_⟩
      rw [h2 t ht, acE_getset ht (by omega)]
      by_cases h3 : t = i
      · subst h3
        rw [if_neg (by omega), if_pos rfl, if_pos (by simp)]
        simp
      · by_cases h4 : i + 1 ≤ t ∧ t < i + 1 + args.length
        · rw [if_pos h4, if_pos (by simp; omega), show t - i = (t - (i + 1)) + 1 from by omega]
          simp
        · rw [if_neg h4, if_neg h3, if_neg (by simp; omega)]
    · rw [sets_drop, if_neg hi] at hh
      exact no hh
theorem iniK_t {args : List AV} {f : Env → Bool} (hh : iniK args f = true) (V N : Nat) : ∃ e, f e = true ∧ ER ⟨V, []⟩ N e (args ++ List.replicate (N - args.length) undefA) := by
  obtain ⟨e, h1, h2⟩ := iniK_go args 0 env0 hh
  refine ⟨e, h1, ⟨by simp only [List.length_append, List.length_replicate]; omega, fun t ht _ => ?_, nofun, nofun⟩⟩
  rw [h2 t ht, env0_get]
  unfold tget
  rw [List.getD_eq_getElem?_getD, List.getElem?_append]
  by_cases h3 : t < args.length
  · rw [if_pos h3, if_pos (by omega)]
    simp
  · rw [if_neg h3, if_neg (by omega), List.getElem?_replicate]
    split <;> rfl
/-- What the run of a call says is so in the model. -/
theorem runF_ok (hm : P.follows .mixedOrders = true) (M F : Nat) (hd : ∀ f fn c, bit M f = true → P.funcs[f]? = some fn → fn.body = some c → drawsC c = true) : ∀ d, RecOk P (runF P M F d)
  | 0, f, args, h, n, k, hh, s, R => no hh
  | d + 1, f, args, h, n, k, hh, s, R => by
    obtain ⟨hb, hh⟩ := iff_t (show ite' (bit M f) (goF F (compF P f) (runF P M F d) args h n k) false = true from hh)
    unfold goF at hh
    cases hx : compF P f with
    | bad => rw [hx] at hh; exact no hh
    | ok cx res =>
      rw [hx] at hh
      obtain ⟨fn, c, h1, h2, V, h3, h4⟩ := compF_ok hm (fun fn c => hd f fn c hb) hx
      obtain ⟨e, h5, E⟩ := iniK_t hh V fn.ntmps
      have R0 : HR h n ⟨⟨s.h.bs, s.h.len, none, []⟩, s.nx⟩ := R.congr (fun _ => rfl) rfl
      obtain ⟨ex, ts', s', e', h', n', a1, a2, a3, a4⟩ := h3 _ F e h n _ _ _ (runF_ok hm M F hd d) E R0 h5
      have a5 : (ex = .normal ∨ ex = .ret) ∧ res e' h' (fun v => k v h' n') = true := by
        cases ex <;> first | exact ⟨.inl rfl, a4⟩ | exact ⟨.inr rfl, a4⟩ | exact no a4
      obtain ⟨vs, b1, b2⟩ := h4 e' h' n' ts' s' _ a2 a3 a5.2
      exact ⟨_, h', n', _, keepC h1 h2 a1 a5.1 b1, a3.congr (fun _ => rfl) rfl, b2⟩
end
end Go.Mini.Fast
namespace Go.Mini.Fast
open Go

/-! ### a law whose bytes are read by % alone -/
section
variable {P : Program} {N V : Nat} {L : List (Nat × Vt)} {ops : Array Oper}
/-- The heap of package-level variables. -/
theorem HR.none {n : Nat} {s : AS} (h : s.nx = n) : HR heap0 n s := by
  refine ⟨h, fun b o hb => ?_⟩
  have hlt := getH_lt hb
  rw [acB_lt hlt] at hb
  have h4 : ∀ b, (acH b).get heap0 = .none := by
    intro b
    show ((((ac16 (b / 16 / 16 / 16)).comp (ac16 (b / 16 / 16 % 16))).comp (ac16 (b / 16 % 16))).comp (ac16 (b % 16))).get heap0 = _
    simp only [comp_get, heap0, all16_get]
  rw [h4] at hb
  cases hb
theorem HR.lay {h : H} {n : Nat} {s : AS} (R : HR h n s) {b : Nat} {o : AObj} (hb : b < 65536) (hs : s.get b = some o) : HR ((acB b).set h (some o)) n s := by
  refine ⟨R.nx, fun c oc hc => ?_⟩
  rw [getH_set hb] at hc
  split at hc
  · rename_i e
    rw [e, hs]
    exact hc
  · exact R.get c oc hc
/-- Functions whose regions that draw are well-formed. -/
noncomputable def drawsF (P : Program) (f : Nat) : Bool := match P.funcs[f]? with
  | some fn => match fn.body with
    | some c => drawsC c
    | none => true
  | none => true
theorem draws_of {M : Nat} {l : List Nat} (h1 : l.all (drawsF P) = true) (hM : ∀ f, bit M f = true → f ∈ l) : ∀ f fn c, bit M f = true → P.funcs[f]? = some fn → fn.body = some c → drawsC c = true := by
  intro f fn c hb hf hc
  have := List.all_eq_true.1 h1 f (hM f hb)
  unfold drawsF at this
  rw [hf] at this
  simp only [hc] at this
  exact this
/-- The mask of a row of functions. -/
def maskL : List Nat → Nat
  | [] => 0
  | f :: l => Nat.lor (Nat.pow 2 f) (maskL l)
theorem bit_test (V t : Nat) : bit V t = V.testBit t := by
  unfold bit
  rw [Nat.testBit, show Nat.land (Nat.shiftRight V t) 1 = V >>> t &&& 1 from rfl, Nat.and_comm]
  have : 1 &&& V >>> t = 0 ∨ 1 &&& V >>> t = 1 := by
    rw [Nat.and_comm, Nat.and_one_is_mod]; omega
  rcases this with e | e <;> rw [e] <;> rfl
theorem mask_mem : ∀ {l : List Nat} {f : Nat}, bit (maskL l) f = true → f ∈ l
  | [], f, h => by
    rw [bit_test] at h
    simp [maskL] at h
  | g :: l, f, h => by
    rw [bit_test, show maskL (g :: l) = 2 ^ g ||| maskL l from rfl, Nat.testBit_or, Bool.or_eq_true] at h
    rcases h with h | h
    · rw [Nat.testBit_two_pow] at h
      have : g = f := by simpa using h
      simp [this]
    · exact List.mem_cons_of_mem _ (mask_mem (by rw [bit_test]; exact h))
/-- A chapter's example, by its run where the laid ones alone are. -/
theorem lives_ok {r : RecT} (hr : RecOk P r) {lv : Nat} {G : List (Nat × List AV)} {h : H} {n : Nat} (R : HR h n (startS P G)) (hrun : r lv [] h n (fun v _ _ => onBool v true false) = true) (hl : lowG P G = true) :
    ∀ s, hasG s G = true → Sound P (.call lv [] s) ⟨.ret, [.bool true], s⟩ := by
  obtain ⟨v, h', n', s', h1, _, h3⟩ := hr lv [] h n _ hrun _ R
  rcases onBool_t h3 with ⟨rfl, _⟩ | ⟨_, h4⟩
  · exact fun s hs => Sound.pure h1 hl rfl rfl hs
  · exact no h4
end
end Go.Mini.Fast
