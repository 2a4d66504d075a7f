/- An interpreter of our own, on abstract values, and the proof that what it says of a call is so in the model (part 2 of 3); under the conditions that its theorems name, and no others. -/
import Derived.Scope
import Derived.OpenShut
import Derived.Carry
import Derived.ChangeOld
import Derived.ChangeSame
import Derived.Deep.DeepHandedRow
import Derived.Test.YtofbdgmknfbkfaaGreatDoorMini1
namespace Go.Mini
open Go Go.RowKit

def AExit.out : AExit → Exit
  | .normal => .normal
  | .exit id => .exit id
  | .goto l => .goto l
  | .ret => .ret

/-- What a run of ours says of the model's. -/
def Sound (P : Program) : Task → Res → Prop
  | .code c ts s, r => (∀ l, r.e ≠ .goto l) ∧ ∀ (B : Base) (ρ : Ren) (a : Act) (w : World), Rel P B ρ s w → TR ρ ts a →
      c.wp P (fun e a' w' => e = r.e.out ∧ ∃ ρ', TR ρ' r.ts a' ∧ Post P B ρ s w ρ' r.s w') a w
  | .call f args s, r => ∀ (B : Base) (ρ : Ren) (cargs : List Value) (w : World), Rel P B ρ s w → VRels ρ args cargs →
      Calls P f cargs.toArray w fun e w' => ∃ v u ρ', r.ts = [v] ∧ e = .returned u ∧ VRel ρ' v u ∧ Post P B ρ s w ρ' r.s w'

section
variable {P : Program} {B : Base} {ρ : Ren} {s : AS} {w : World} {ts : List AV} {a : Act}

theorem wp_unroll {c : Code} {Q : Exit → Act → World → Prop} (hq : ∀ e a w, Q e a w → e = .normal ∨ (∃ id, e = .exit id) ∨ e = .ret)
    (h : c.wp P (Exit.then (fun a' w' => (Code.loop c).wp P Q a' w') Q) a w) : (Code.loop c).wp P Q a w := by
  intro b k cs
  obtain ⟨e, a₁, w₁, h1, harr⟩ := h b (.inLoop c :: k) cs
  have short : ∀ {m : Machine} {x : Nat}, runN P x (lone (b.at a₁ (.code (.loop c) :: k)) cs w₁) = .next m → m ≠ lone (b.at a₁ (.code (.loop c) :: k)) cs w₁ →
      Steps P (lone (b.at a₁ (.inLoop c :: k)) cs w₁) m := by
    intro m x hx hne
    cases x with
    | zero => simp only [runN, Stepped.next.injEq] at hx; exact absurd hx.symm hne
    | succ x =>
      simp only [runN, step_loop] at hx
      exact .head step_inLoop ⟨x, hx⟩
  cases e with
  | normal =>
    obtain ⟨e₂, a₂, w₂, hq₂, harr₂⟩ := h1 b k cs
    refine ⟨e₂, a₂, w₂, hq₂, .of_steps (Steps.head step_loop harr) ?_⟩
    rcases hq e₂ a₂ w₂ hq₂ with rfl | ⟨id, rfl⟩ | rfl
    · obtain ⟨x, hx⟩ := harr₂
      refine short hx (fun he => ?_)
      have := congrArg (fun (m : Machine) => m.gs[0]?.map (·.frame.todo)) he
      simp [lone, Frame.at] at this
    · intro k' hk
      obtain ⟨x, hx⟩ := harr₂ k' hk
      refine short hx (fun he => ?_)
      have := congrArg (fun (m : Machine) => m.gs[0]?.map (·.frame.todo)) he
      simp [lone, Frame.at] at this
      have hlen : ∀ (k k' : List Item), exitTo id k = some k' → k'.length < k.length := by
        intro k
        induction k with
        | nil => intro k' h; simp [exitTo] at h
        | cons x k ih =>
          intro k' h
          cases x <;> simp only [exitTo] at h <;> first
            | (have := ih _ h; simp; omega)
            | (split at h
               · simp only [Option.some.injEq] at h; subst h; simp
               · have := ih _ h; simp; omega)
      have := hlen _ _ hk
      rw [‹k' = _›] at this
      simp at this
      omega
    · obtain ⟨todo, x, hx⟩ := harr₂
      refine ⟨todo, short hx (fun he => ?_)⟩
      have := congrArg (fun (m : Machine) => m.gs[0]?.map (·.frame.mode)) he
      simp [lone, Frame.at] at this
  | exit id => exact ⟨_, a₁, w₁, h1, .of_steps (.one step_loop) (.pass (x := .inLoop c) rfl (fun _ _ => .inl (by simp)) harr)⟩
  | goto l => exact ⟨_, a₁, w₁, h1, .of_steps (.one step_loop) (.pass (x := .inLoop c) rfl (fun _ _ => .inl (by simp)) harr)⟩
  | ret => exact ⟨_, a₁, w₁, h1, .of_steps (.one step_loop) (.pass (x := .inLoop c) rfl (fun _ _ => .inl (by simp)) harr)⟩
  | panic ch => exact ⟨_, a₁, w₁, h1, .of_steps (.one step_loop) (.pass (x := .inLoop c) rfl (fun _ _ => .inl (by simp)) harr)⟩
  | outgrown => exact ⟨_, a₁, w₁, h1, .of_steps (.one step_loop) (.pass (x := .inLoop c) rfl (fun _ _ => .inl (by simp)) harr)⟩

theorem wanted_rel {ops : Array Oper} (ht : TR ρ ts a) (o : Oper) (hg : gjunk ops ts o = false) : Region.wanted o (yielded ops a.tmps) = wantedA ops ts o := by
  unfold gjunk at hg
  unfold Region.wanted wantedA
  cases hgd : o.guard with
  | none => rfl
  | some jw =>
    obtain ⟨j, want⟩ := jw
    simp only [yielded, dstOf]
    cases hoj : ops[j]? with
    | none => simp
    | some oj =>
      cases hd : oj.dst with
      | none => simp [hd]
      | some d =>
        simp only [hd, Option.bind_some]
        have hl := ht.rel.length
        cases hts : ts[d]? with
        | none =>
          have h1 : ts.length ≤ d := by simpa using hts
          have : a.tmps[d]? = none := by
            apply Array.getElem?_eq_none
            simp at hl
            omega
          simp [this]
        | some x =>
          obtain ⟨v, hv, hr⟩ := ht.rel.get hts
          have hv' : a.tmps[d]? = some v := by simpa using hv
          rw [hv']
          cases x with
          | bool b => rw [vrel_bool] at hr; subst hr; simp
          | tuple cs =>
            cases v with
            | bool b =>
              exfalso
              rw [vrel_tuple] at hr
              rcases hr with ⟨hl, _⟩ | ⟨ws, e, _⟩
              · rw [hgd] at hg
                simp only [dstOf, hoj, hd, hts] at hg
                match cs, hl with
                | [_], _ => simp at hg
              · cases e
            | _ => simp
          | _ =>
            cases v with
            | bool b => exfalso; simp at hr
            | _ => simp

theorem stepOp_sound {rec : Task → Option Res} (hrec : ∀ t r, rec t = some r → Sound P t r) {ops : Array Oper} {i : Nat} {o : Oper} (hi : ops[i]? = some o) {ts' : List AV} {s' : AS}
    (h : stepOp P rec ops o ts s = some (ts', s')) (R : Rel P B ρ s w) (ht : TR ρ ts a) {Q : Exit → Act → World → Prop} {K : Act → World → Prop}
    (hK : ∀ ρ' a' w', TR ρ' ts' a' → Post P B ρ s w ρ' s' w' → K a' w') : wpOp P ops Q i K a w := by
  unfold stepOp at h
  split at h
  case h_2 => simp at h
  rename_i v0 s0 hsv
  simp only [Option.some.injEq, Prod.mk.injEq] at h
  obtain ⟨rfl, rfl⟩ := h
  unfold stepV at hsv
  split at hsv
  · cases hsv
  rename_i hgj
  have h := hsv
  unfold wpOp
  simp only [hi, wanted_rel ht _ (by simpa using hgj)]
  split at h
  · rename_i hw
    rw [if_pos hw]
    refine .inl ?_
    split at h
    · rename_i v s2 hop
      simp only [Option.some.injEq, Prod.mk.injEq] at h
      obtain ⟨rfl, rfl⟩ := h
      obtain ⟨nxt, u, w', ρ', h1, h2, h3, h4⟩ := op_run R ht o hop
      unfold Oper.wp
      rw [h1]
      have ht' := (ht.mono (h4.mono R)).put o.dst h3
      rcases h2 with rfl | ⟨rfl, rfl⟩
      · exact hK ρ' _ w' ht' h4
      · exact hK ρ' _ w' ht' h4
    · rename_i f args hop
      split at h
      · rename_i e v s2 hcall
        simp only [Option.some.injEq, Prod.mk.injEq] at h
        obtain ⟨rfl, rfl⟩ := h
        obtain ⟨cargs, h1, h2⟩ := op_run R ht o hop
        have hs := hrec _ _ hcall B ρ cargs w R h2
        unfold Oper.wp
        rw [h1]
        refine Calls.mono hs fun e' w' hr => ?_
        obtain ⟨v', u, ρ', e1, rfl, e3, e4⟩ := hr
        simp only [List.cons.injEq, and_true] at e1
        subst e1
        exact hK ρ' _ w' ((ht.mono (e4.mono R)).put o.dst e3) e4
      · simp at h
    · simp at h
  · rename_i hw
    rw [if_neg hw]
    simp only [Option.some.injEq, Prod.mk.injEq] at h
    obtain ⟨rfl, rfl⟩ := h
    exact hK ρ _ w (ht.put o.dst vrel_undef) (.refl R)

theorem stepOps_sound {rec : Task → Option Res} (hrec : ∀ t r, rec t = some r → Sound P t r) {ops : Array Oper} {Q : Exit → Act → World → Prop} : ∀ (l : List Oper) (k : Nat) (ts : List AV) (s : AS) (ts' : List AV) (s' : AS) (ρ : Ren) (a : Act) (w : World),
    (∀ j o, l[j]? = some o → ops[k + j]? = some o) → stepOps P rec ops l ts s = some (ts', s') → Rel P B ρ s w → TR ρ ts a →
    (∀ ρ' a' w', TR ρ' ts' a' → Post P B ρ s w ρ' s' w' → Q .normal a' w') → wpOps P ops Q (List.range' k l.length) a w
  | [], k, ts, s, ts', s', ρ, a, w, _, h, R, ht, hQ => by
    simp only [stepOps, Option.some.injEq, Prod.mk.injEq] at h
    obtain ⟨rfl, rfl⟩ := h
    simp only [List.length_nil, List.range'_zero, wpOps]
    exact hQ ρ a w ht (.refl R)
  | o :: l, k, ts, s, ts', s', ρ, a, w, hl, h, R, ht, hQ => by
    simp only [stepOps] at h
    split at h
    · rename_i ts1 s1 h1
      simp only [List.length_cons, List.range'_succ]
      rw [wpOps_cons]
      refine stepOp_sound hrec (by simpa using hl 0 o (by simp)) h1 R ht fun ρ1 a1 w1 ht1 hp1 => ?_
      refine stepOps_sound hrec l (k + 1) ts1 s1 ts' s' ρ1 a1 w1 (fun j o' hj => ?_) h hp1.rel ht1 fun ρ2 a2 w2 ht2 hp2 => hQ ρ2 a2 w2 ht2 (hp1.trans hp2)
      rw [show k + 1 + j = k + (j + 1) from by omega]
      exact hl (j + 1) o' (by simpa using hj)
    · simp at h

def readRes (tmps : Array Value) (r : ResultVar) : Sem Value :=
  match r with
  | .tmp t => pure (tmps.getD t undef)
  | .cell x t => do loadVar t (← asAddr (tmps.getD x undef))
theorem results_eq (fn : Func) (tmps : Array Value) : results fn tmps = (do
    let vs ← fn.results.mapM (readRes tmps)
    pure (if h : vs.size = 1 then vs[0] else .tuple vs)) := by
  unfold results
  congr 1

theorem results_run (R : Rel P B ρ s w) (ht : TR ρ ts a) : ∀ (rs : List ResultVar) (vs : List AV), resultsA P ts s rs = some vs →
    ∃ us : List Value, (List.mapM (readRes a.tmps) rs : Sem (List Value)).run P w = .ok us w ∧ VRels ρ vs us
  | [], vs, h => by
    simp only [resultsA, Option.some.injEq] at h
    subst h
    exact ⟨[], by simp, by simp⟩
  | r :: rs, vs, h => by
    simp only [resultsA] at h
    split at h
    · rename_i v hv
      split at h
      · rename_i vs' hvs
        simp only [Option.some.injEq] at h
        subst h
        obtain ⟨us, h1, h2⟩ := results_run R ht rs vs' hvs
        have hr : ∃ u, (readRes a.tmps r).run P w = .ok u w ∧ VRel ρ v u := by
          cases r with
          | tmp t =>
            simp only [resultA, Option.some.injEq] at hv
            subst hv
            exact ⟨_, rfl, ht.get t⟩
          | cell x t =>
            simp only [resultA] at hv
            have hx := ht.get x
            obtain ⟨u, h3, h4⟩ := load_run R hv hx
            refine ⟨u, ?_, h4⟩
            have hp : ∃ b o, tget ts x = .ptr b o := by
              unfold loadA at hv
              split at hv
              · rename_i b o he; exact ⟨b, o, he⟩
              · simp at hv
            obtain ⟨b, o, he⟩ := hp
            rw [he, vrel_ptr] at hx
            obtain ⟨L, _, e⟩ := hx
            rw [e] at h3
            simp only [readRes, e]
            simpa [Instr.loadAt, Instr.sureAddr, asAddr] using h3
        obtain ⟨u, h3, h4⟩ := hr
        refine ⟨u :: us, ?_, by rw [vrels_cons]; exact ⟨_, _, rfl, h4, h2⟩⟩
        simp only [List.mapM_cons, Sem.run_bind]
        rw [h3]
        simp only [Result.andThen_ok]
        rw [h1]
        rfl
      · simp at h
    · simp at h

theorem one_or_tuple {vs : List AV} {us : List Value} (h : VRels ρ vs us) : VRel ρ (oneOrTuple vs) (if h : us.toArray.size = 1 then us.toArray[0] else .tuple us.toArray) := by
  have hl := h.length
  match vs, us, h with
  | [], [], _ => simp [oneOrTuple]
  | [v], [u], h =>
    rw [vrels_cons] at h
    obtain ⟨w, ws, e, h1, _⟩ := h
    simp only [List.cons.injEq] at e
    simp [oneOrTuple, e.1, h1]
  | v :: v' :: vs, u :: u' :: us, h =>
    simp only [oneOrTuple, List.size_toArray, List.length_cons]
    rw [dif_neg (by omega), vrel_tuple]
    exact .inr ⟨_, rfl, h⟩
  | [], _ :: _, _ => simp at hl
  | _ :: _, [], _ => simp at hl
  | [_], _ :: _ :: _, _ => simp at hl
  | _ :: _ :: _, [_], _ => simp at hl

theorem results_all (R : Rel P B ρ s w) (ht : TR ρ ts a) {fn : Func} {vs : List AV} (h : resultsA P ts s fn.results.toList = some vs) :
    ∃ u, (results fn a.tmps).run P w = .ok u w ∧ VRel ρ (oneOrTuple vs) u := by
  obtain ⟨us, h1, h2⟩ := results_run R ht _ _ h
  refine ⟨_, ?_, one_or_tuple h2⟩
  rw [results_eq, Sem.run_bind, Array.mapM_eq_mapM_toList]
  simp only [Sem.run_map]
  rw [h1]
  rfl

theorem olds_eq (nx : Nat) : ∀ (l r : List Nat), olds nx l r = (l.filter fun b => Nat.blt b nx) ++ r
  | [], r => rfl
  | b :: l, r => by
    simp only [olds, List.filter_cons]
    split <;> simp [olds_eq nx l r]
/-- The end of a call: what nobody names any more may go. -/
theorem leave_post {s0 s' : AS} {ρ' : Ren} {w' : World} (R : Rel P B ρ s w) (h0 : s0 = ⟨⟨s.h.bs, s.h.len, none, []⟩, s.nx⟩) (h : Post P B ρ s0 w ρ' s' w') (v : AV) : Post P B ρ s w ρ' (leave s s' v) w' := by
  have hk0 : keysOf s0 = keysOf s := by rw [h0]; rfl
  have hg0 : ∀ b, s0.get b = s.get b := by intro b; rw [h0]; rfl
  have hn0 : s0.nx = s.nx := by rw [h0]
  have hl0 : s0.h.len = s.h.len := by rw [h0]
  obtain ⟨hnx, ⟨ks, h2, h3, h4⟩, lg, h5, h6⟩ := h.shape
  have hw0 : s0.h.wr = [] := by rw [h0]
  have hlog : olds s.nx s'.h.wr s.h.wr = (lg.filter fun b => Nat.blt b s.nx) ++ s.h.wr := by rw [h5, hw0, List.append_nil, olds_eq]
  have hin : ∀ b, b < s.nx → b ∉ (lg.filter fun b => Nat.blt b s.nx) → b ∉ lg := fun b hb hn hm => hn (List.mem_filter.2 ⟨hm, by simpa using hb⟩)
  rw [hk0] at h2
  rw [hl0] at h3
  rw [hn0] at hnx h4 h6
  unfold leave
  split
  · refine ⟨h.rel.congr (fun _ => rfl) rfl rfl, fun b hb => h.ext b (by rw [hn0]; exact hb), fun b hb hn => by rw [← hg0]; exact h.unt b (by rw [hn0]; exact hb) hn, ⟨hnx, ⟨ks, h2, h3, h4⟩, _, hlog, fun b hb hn => by rw [← hg0]; exact h6 b hb (hin b hb hn)⟩, h.size⟩
  · have hd : s'.h.len - s.h.len = ks.length := by omega
    have hsplit : ∃ l1 l2, s'.h.bs = l1 ++ l2 ∧ l1.length = ks.length ∧ l1.map (·.1) = ks ∧ l2.map (·.1) = keysOf s := by
      refine ⟨s'.h.bs.take ks.length, s'.h.bs.drop ks.length, (List.take_append_drop _ _).symm, ?_, ?_, ?_⟩
      · have : (keysOf s').length = ks.length + (keysOf s).length := by rw [h2]; simp
        simp [keysOf] at this
        simp
        omega
      · rw [List.map_take]
        show (keysOf s').take ks.length = ks
        rw [h2]
        simp
      · rw [List.map_drop]
        show (keysOf s').drop ks.length = keysOf s
        rw [h2]
        simp
    obtain ⟨l1, l2, e1, e2, e3, e4⟩ := hsplit
    have hdrop : s'.h.bs.drop (s'.h.len - s.h.len) = l2 := by rw [hd, e1, ← e2]; simp
    rw [hdrop]
    have hget : ∀ b, b < s.nx → getB l2 b = s'.get b := by
      intro b hb
      unfold AS.get
      rw [e1, getB_append]
      rw [e3]
      intro hm
      have := h4 b hm
      omega
    have hlt : ∀ {b o}, getB l2 b = some o → b < s.nx := by
      intro b o hb
      have := getB_mem hb
      rw [e4] at this
      exact R.keys b this
    have up : ∀ {b o}, getB l2 b = some o → s'.get b = some o := fun hb => by rw [← hget _ (hlt hb)]; exact hb
    have R' := h.rel
    refine ⟨⟨R'.below, R'.glob, R'.fresh, ?_, R'.lt, fun b o L hb => R'.obj b o L (up hb), fun b o L hb => R'.own b o L (up hb), fun b cs L hb => R'.ros b cs L (up hb),
      fun b b' o o' L L' hb hb' => R'.inj b b' o o' L L' (up hb) (up hb')⟩, fun b hb => h.ext b (by rw [hn0]; exact hb), ?_, ⟨hnx, ⟨[], ?_, rfl, by simp⟩, _, hlog, fun b hb hn => ?_⟩, h.size⟩
    · intro k hk
      have hk' : k ∈ keysOf s := by rw [← e4]; exact hk
      have := R.keys k hk'
      show k < s'.nx
      omega
    · intro b hb hn
      show getB l2 b = _
      rw [hget b hb, h.unt b (by rw [hn0]; exact hb) hn, hg0]
    · show l2.map (·.1) = [] ++ keysOf s
      rw [e4]
      rfl
    · show getB l2 b = _
      rw [hget b hb, h6 b hb (hin b hb hn), hg0]
end
end Go.Mini

namespace Go.Mini
open Go Go.RowKit
section
variable {P : Program} {ts ts2 : List AV} {s : AS}

theorem evA_congr {x : Operand} (h : ∀ t, x = .tmp t → ts[t]? = ts2[t]?) : evA P ts x = evA P ts2 x := by
  cases x with
  | tmp t => simp only [evA, tget, List.getD_eq_getElem?_getD, h t rfl]
  | _ => rfl
theorem evL_congr : ∀ {l : List Operand}, (∀ x ∈ l, evA P ts x = evA P ts2 x) → evL P ts l = evL P ts2 l
  | [], _ => rfl
  | x :: l, h => by
    simp only [evL]
    rw [h x (by simp), evL_congr (fun y hy => h y (by simp [hy]))]
theorem evParts_congr : ∀ {l : List (Nat × Operand)}, (∀ x ∈ l.map (·.2), evA P ts x = evA P ts2 x) → evParts P ts l = evParts P ts2 l
  | [], _ => rfl
  | (i, x) :: l, h => by
    simp only [evParts]
    rw [h x (by simp), evParts_congr (fun y hy => h y (by simp only [List.map_cons, List.mem_cons]; exact .inr hy))]
theorem optA_congr {x : Option Operand} (h : ∀ y, x = some y → evA P ts y = evA P ts2 y) : optA P ts x = optA P ts2 x := by
  cases x with
  | none => rfl
  | some y => simp only [optA, h y rfl]

theorem valA_congr (op : Op) (h : ∀ x ∈ op.operands, evA P ts x = evA P ts2 x) : valA P ts s op = valA P ts2 s op := by
  cases op <;> simp only [Op.operands] at h <;> simp only [valA]
  case build t ps => rw [evParts_congr (fun x hx => h x (by simpa using hx))]
  case makeFunc fn first captured => rw [evL_congr (fun x hx => h x (by simp; exact .inl (by simpa using hx))), evL_congr (fun x hx => h x (by simp; exact .inr (by simpa using hx)))]
  case slice t x lo hi mx =>
    rw [h x (by simp), optA_congr (fun y hy => h y (by simp [hy])), optA_congr (fun y hy => h y (by simp [hy])), optA_congr (x := mx) (fun y hy => h y (by simp [hy]))]
  case call c =>
    have hc : ∀ x ∈ c.args.toList, evA P ts x = evA P ts2 x := fun x hx => h x (by simp [Call.operands]; exact .inr (by simpa using hx))
    split
    · split
      · rename_i x t tys hargs htys
        rw [hc x (by rw [hargs]; simp)]
      · rfl
    · split
      · rename_i x t tys hargs htys
        rw [hc x (by rw [hargs]; simp)]
      · rfl
    · rw [evL_congr hc]
    · rw [evL_congr hc]
    · rfl
  all_goals first
    | rfl
    | (rw [h _ (by simp)]; done)
    | (rw [h _ (by simp), h _ (by simp)]; done)
    | (rename_i x y _; rw [h x (by simp), h y (by simp)]; done)
    | (rename_i x y z; rw [h x (by simp), h y (by simp), h z (by simp)]; done)
    | (rename_i x y; rw [h x (by simp), h y (by simp)]; done)
    | (rename_i x y _ ; simp only [h x (by simp), h y (by simp)]; done)
    | skip

theorem allocA_congr (b : Nat) (op : Op) (h : ∀ x ∈ op.operands, evA P ts x = evA P ts2 x) : allocA P ts b op = allocA P ts2 b op := by
  cases op <;> simp only [Op.operands] at h <;> simp only [allocA]
  case box t x => rw [h x (by simp)]
  case buildSlice t n ps => rw [evParts_congr (fun x hx => h x (by simpa using hx))]
  case makeMap t r =>
    cases r with
    | none => rfl
    | some x => simp only; rw [h x (by simp)]
  case makeSlice t l c => rw [h l (by simp), h c (by simp)]

theorem effA_congr (op : Op) (h : ∀ x ∈ op.operands, evA P ts x = evA P ts2 x) : effA P ts s op = effA P ts2 s op := by
  cases op <;> simp only [Op.operands] at h <;> simp only [effA]
  case store t x y => rw [h x (by simp), h y (by simp)]
  case mapUpdate t m k x => rw [h m (by simp), h k (by simp), h x (by simp)]
  case insert t m k x => rw [h m (by simp), h k (by simp), h x (by simp)]
  case mapEntry t m k => rw [h m (by simp), h k (by simp)]
  case entryStore t m k x => rw [h m (by simp), h k (by simp), h x (by simp)]
  case call c =>
    obtain ⟨callee, args, tys⟩ := c
    have hc : ∀ x ∈ args.toList, evA P ts x = evA P ts2 x := fun x hx => h x (by simp [Call.operands]; exact .inr (by simpa using hx))
    rw [evL_congr hc]
    cases callee with
    | value f => simp only; rw [h f (by simp [Call.operands])]
    | invoke r name => simp only; rw [h r (by simp [Call.operands])]
    | builtin b => cases b <;> rfl

theorem opA_congr (op : Op) (h : ∀ x ∈ op.operands, evA P ts x = evA P ts2 x) : opA P ts s op = opA P ts2 s op := by
  unfold opA
  rw [valA_congr op h, allocA_congr _ op h, effA_congr op h]

theorem looks_ev {ops : Array Oper} {o : Oper} (h : ∀ t ∈ o.looksAt ops, ts[t]? = ts2[t]?) : ∀ x ∈ o.op.operands, evA P ts x = evA P ts2 x := by
  intro x hx
  refine evA_congr fun t ht => h t ?_
  subst ht
  exact List.mem_append_left _ (List.mem_filterMap.2 ⟨.tmp t, by simpa using hx, rfl⟩)
theorem wantedA_congr {ops : Array Oper} {o : Oper} (h : ∀ t ∈ o.looksAt ops, ts[t]? = ts2[t]?) : wantedA ops ts o = wantedA ops ts2 o := by
  unfold wantedA
  cases hg : o.guard with
  | none => rfl
  | some jw =>
    obtain ⟨j, want⟩ := jw
    simp only
    cases hd : dstOf ops j with
    | none => rfl
    | some d =>
      simp only
      rw [h d]
      refine List.mem_append_right _ ?_
      unfold dstOf at hd
      rw [hg]
      simp only
      cases ho : ops[j]? with
      | none => rw [ho] at hd; simp at hd
      | some oj => rw [ho] at hd; simp at hd; simp [hd]
theorem gjunk_congr {ops : Array Oper} {o : Oper} (h : ∀ t ∈ o.looksAt ops, ts[t]? = ts2[t]?) : gjunk ops ts o = gjunk ops ts2 o := by
  unfold gjunk
  unfold Oper.looksAt at h
  cases hg : o.guard with
  | none => rfl
  | some jw =>
    obtain ⟨j, want⟩ := jw
    simp only
    cases hd : dstOf ops j with
    | none => rfl
    | some d =>
      simp only
      rw [h d]
      refine List.mem_append_right _ ?_
      unfold dstOf at hd
      rw [hg]
      simp only
      cases ho : ops[j]? with
      | none => rw [ho] at hd; simp at hd
      | some oj => rw [ho] at hd; simp at hd; simp [hd]
theorem stepV_congr {rec : Task → Option Res} {ops : Array Oper} {o : Oper} (h : ∀ t ∈ o.looksAt ops, ts[t]? = ts2[t]?) : stepV P rec ops o ts s = stepV P rec ops o ts2 s := by
  unfold stepV
  rw [gjunk_congr h, wantedA_congr h, opA_congr o.op (looks_ev h)]

/-- A value that hangs on nothing but slots. -/
theorem valA_pure (op : Op) (hk : kindOf op = .P) (s2 : AS) : valA P ts s op = valA P ts s2 op := by
  cases op <;> simp only [kindOf, reduceCtorEq] at hk <;> simp only [valA]
  case binOp op t x y ty =>
    split
    · split <;> first | (simp at hk; done) | rfl
    · rfl
  case call c =>
    split <;> first | rfl | (rename_i h1; rw [h1] at hk; simp at hk)
end

/-! ### slots, filled one behind the other -/
def tsOf (ops : Array Oper) (l : List TE) (ts : List AV) : List AV := l.foldl (fun acc x => putA acc (dstOf ops x.i) x.v) ts

theorem tsOf_append (ops : Array Oper) (l m : List TE) (ts : List AV) : tsOf ops (l ++ m) ts = tsOf ops m (tsOf ops l ts) := by simp [tsOf]
theorem putA_get (ts : List AV) {d : Option Tmp} {v : AV} {t : Nat} (h : d ≠ some t) : (putA ts d v)[t]? = ts[t]? := by
  cases d with
  | none => rfl
  | some d =>
    simp only [putA]
    rw [List.getElem?_set_ne]
    intro e
    exact h (by rw [e])
@[simp] theorem putA_length (ts : List AV) (d : Option Tmp) (v : AV) : (putA ts d v).length = ts.length := by cases d <;> simp [putA]
theorem putA_same {ts ts2 : List AV} {d t : Nat} {v : AV} (hl : ts.length = ts2.length) (h : ts[t]? = ts2[t]?) : (putA ts (some d) v)[t]? = (putA ts2 (some d) v)[t]? := by
  simp only [putA, List.getElem?_set, hl, h]
/-- At a slot that those who are left out don't write, the rest gives what all give. -/
theorem tsOf_filter {ops : Array Oper} {p : TE → Bool} {t : Nat} : ∀ {l : List TE} {ts ts2 : List AV}, ts[t]? = ts2[t]? → ts.length = ts2.length → (∀ x ∈ l, p x = false → dstOf ops x.i ≠ some t) →
    (tsOf ops (l.filter p) ts)[t]? = (tsOf ops l ts2)[t]?
  | [], _, _, h, _, _ => h
  | x :: l, ts, ts2, h, hl, hp => by
    by_cases hx : p x = true
    · rw [List.filter_cons_of_pos hx]
      refine tsOf_filter (l := l) ?_ ?_ (fun y hy => hp y (by simp [hy]))
      · show (putA ts (dstOf ops x.i) x.v)[t]? = (putA ts2 (dstOf ops x.i) x.v)[t]?
        cases hd : dstOf ops x.i with
        | none => exact h
        | some d => exact putA_same hl h
      · simp [hl]
    · have hx' : p x = false := by simpa using hx
      rw [List.filter_cons_of_neg hx]
      refine tsOf_filter (l := l) ?_ ?_ (fun y hy => hp y (by simp [hy]))
      · show ts[t]? = (putA ts2 (dstOf ops x.i) x.v)[t]?
        rw [putA_get _ (hp x (by simp) hx'), h]
      · simp [hl]
theorem tsOf_none {ops : Array Oper} {t : Nat} : ∀ {l : List TE} {ts : List AV}, (∀ x ∈ l, dstOf ops x.i ≠ some t) → (tsOf ops l ts)[t]? = ts[t]?
  | [], _, _ => rfl
  | x :: l, ts, h => by
    show (tsOf ops l _)[t]? = _
    rw [tsOf_none (fun y hy => h y (by simp [hy])), putA_get _ (h x (by simp))]
theorem putA_comm (ts : List AV) {d e : Option Tmp} {u v : AV} (h : ∀ t, d = some t → e ≠ some t) : putA (putA ts d u) e v = putA (putA ts e v) d u := by
  cases d with
  | none => rfl
  | some d =>
    cases e with
    | none => rfl
    | some e =>
      simp only [putA]
      rw [List.set_comm]
      intro he
      exact h d rfl (by rw [he])
theorem tsOf_put {ops : Array Oper} {d : Option Tmp} {v : AV} : ∀ {l : List TE} {ts : List AV}, (∀ x ∈ l, ∀ t, d = some t → dstOf ops x.i ≠ some t) → tsOf ops l (putA ts d v) = putA (tsOf ops l ts) d v
  | [], _, _ => rfl
  | x :: l, ts, h => by
    show tsOf ops l (putA (putA ts d v) (dstOf ops x.i) x.v) = putA (tsOf ops l (putA ts (dstOf ops x.i) x.v)) d v
    rw [putA_comm _ (h x (by simp)), tsOf_put (fun y hy => h y (by simp [hy]))]
end Go.Mini

namespace Go.Mini
open Go Go.RowKit

/-! ### what comes ahead of what -/
theorem maskOf_bit {acc : List Nat} : ∀ {es : List Edge} {k : Nat}, (maskOf acc es).testBit k = true → ∃ e ∈ es, Region.binds .any e = true ∧ (k = e.on ∨ (acc.getD e.on 0).testBit k = true)
  | [], k, h => by simp [maskOf] at h
  | e :: es, k, h => by
    simp only [maskOf] at h
    split at h
    · rename_i hb
      rw [Nat.testBit_or, Bool.or_eq_true, Nat.testBit_or, Bool.or_eq_true] at h
      rcases h with (h | h) | h
      · refine ⟨e, by simp, hb, .inl ?_⟩
        rw [Nat.testBit_two_pow] at h
        simpa [eq_comm] using h
      · exact ⟨e, by simp, hb, .inr h⟩
      · obtain ⟨e', h1, h2⟩ := maskOf_bit h
        exact ⟨e', by simp [h1], h2⟩
    · obtain ⟨e', h1, h2⟩ := maskOf_bit h
      exact ⟨e', by simp [h1], h2⟩
theorem befGo_spec : ∀ (l : List Oper) (acc : List Nat), ∃ ms, befGo l acc = acc ++ ms ∧ ms.length = l.length ∧ ∀ j o, l[j]? = some o → ms[j]? = some (maskOf (acc ++ ms.take j) o.after.toList)
  | [], acc => ⟨[], by simp [befGo]⟩
  | o :: l, acc => by
    obtain ⟨ms, h1, h2, h3⟩ := befGo_spec l (acc ++ [maskOf acc o.after.toList])
    refine ⟨maskOf acc o.after.toList :: ms, by simp [befGo, h1], by simp [h2], fun j o' hj => ?_⟩
    cases j with
    | zero => simp only [List.getElem?_cons_zero, Option.some.injEq] at hj; subst hj; simp
    | succ j =>
      simp only [List.getElem?_cons_succ] at hj
      have := h3 j o' hj
      simp only [List.getElem?_cons_succ, this, List.take_succ_cons]
      simp
theorem befores_bit {ops : Array Oper} {i k : Nat} (h : ((befores ops).getD i 0).testBit k = true) : ∃ o, ops[i]? = some o ∧ ∃ e ∈ o.after, Region.binds .any e = true ∧ (k = e.on ∨ ((befores ops).getD e.on 0).testBit k = true) := by
  obtain ⟨ms, h1, h2, h3⟩ := befGo_spec ops.toList []
  have hb : befores ops = ms := by simpa [befores] using h1
  rw [hb] at h ⊢
  cases ho : ops[i]? with
  | none =>
    have : ms[i]? = none := by
      apply List.getElem?_eq_none
      have : ops.size ≤ i := by simpa using ho
      simp [h2]
      omega
    rw [List.getD_eq_getElem?_getD, this] at h
    simp at h
  | some o =>
    have hm := h3 i o (by simpa using ho)
    rw [List.getD_eq_getElem?_getD, hm] at h
    simp only [Option.getD_some, List.nil_append] at h
    obtain ⟨e, k1, k2, k3⟩ := maskOf_bit h
    refine ⟨o, rfl, e, by simpa using k1, k2, ?_⟩
    rcases k3 with k3 | k3
    · exact .inl k3
    · refine .inr ?_
      rw [List.getD_eq_getElem?_getD, List.getElem?_take] at k3
      split at k3
      · rw [List.getD_eq_getElem?_getD]; exact k3
      · simp at k3

/-! ### the run in our order -/
def Mk (ops : Array Oper) (x : TE) : Prop := ∃ o, ops[x.i]? = some o ∧ wantedA ops x.ts o = true ∧ kindOf o.op = .A

/-- Blocks that come in front. -/
inductive Grow : AS → AS → Prop
  | refl (s : AS) : Grow s s
  | step {s t : AS} (o : AObj) : Grow s t → o.rw = true → Grow s (t.push o)

theorem Grow.nx {s t : AS} (h : Grow s t) : s.nx ≤ t.nx := by
  induction h with
  | refl => exact Nat.le_refl _
  | step o _ _ ih => exact Nat.le_succ_of_le ih
theorem Grow.trans {s t u : AS} (h : Grow s t) (k : Grow t u) : Grow s u := by
  induction k with
  | refl => exact h
  | step o _ hr ih => exact .step o ih hr
theorem Grow.get {s t : AS} (h : Grow s t) {b : Nat} (hb : b < s.nx) : t.get b = s.get b := by
  induction h with
  | refl => rfl
  | step o h1 _ ih =>
    rw [AS.get_push, if_neg, ih]
    have := h1.nx
    omega
theorem Grow.shape {s t : AS} (h : Grow s t) : Shape s t := by
  induction h with
  | refl => exact .refl _
  | step o _ _ ih => exact ih.trans (.push _ _)

section
variable {P : Program} {rec : Task → Option Res} {ops : Array Oper}

/-- What an operation that turns nothing did. -/
def NE (P : Program) (ops : Array Oper) (x : TE) (G : AS) : Prop := ∃ o, ops[x.i]? = some o ∧ isE o = false ∧ gjunk ops x.ts o = false ∧
  ((wantedA ops x.ts o = false ∧ x.v = undefA) ∨ (wantedA ops x.ts o = true ∧
    ((kindOf o.op = .P ∧ ∀ s2, valA P x.ts s2 o.op = some x.v) ∨ (kindOf o.op = .R ∧ ∃ sr, valA P x.ts sr o.op = some x.v ∧ sr.nx = x.nx ∧ sr.h.wr = x.wr ∧ Grow sr G) ∨ (kindOf o.op = .A ∧ ∃ ob, allocA P x.ts x.nx o.op = some (x.v, ob) ∧ G.get x.nx = some ob ∧ ob.rw = true))))

def Chain (ops : Array Oper) : List TE → List AV → Prop
  | [], _ => True
  | x :: l, ts => x.ts = ts ∧ Chain ops l (putA ts (dstOf ops x.i) x.v)
def Sep (ops : Array Oper) : List TE → Prop
  | [] => True
  | x :: l => (Mk ops x → ∀ y ∈ l, x.nx < y.nx) ∧ Sep ops l

structure StageOk (P : Program) (ops : Array Oper) (k : Nat) (l : List Nat) (ts : List AV) (s : AS) (st : List TE) (G : AS) : Prop where
  idx : st.map (·.i) = l
  chain : Chain ops st ts
  grow : Grow s G
  sep : Sep ops st
  each : ∀ x ∈ st, x.k = k ∧ s.nx ≤ x.nx ∧ (Mk ops x → x.nx < G.nx) ∧ NE P ops x G

theorem allocA_rw {ts : List AV} {b : Nat} {op : Op} {v : AV} {ob : AObj} (h : allocA P ts b op = some (v, ob)) : ob.rw = true := by
  cases op <;> simp only [allocA, reduceCtorEq] at h
  case alloc t => split at h <;> simp only [Option.some.injEq, Prod.mk.injEq, reduceCtorEq] at h; rw [← h.2]; rfl
  case box t x => split at h <;> simp only [Option.some.injEq, Prod.mk.injEq, reduceCtorEq] at h; rw [← h.2]; rfl
  case buildSlice t n ps =>
    (repeat' split at h) <;> simp only [Option.some.injEq, Prod.mk.injEq, reduceCtorEq] at h
    rw [← h.2]; rfl
  case makeMap t r =>
    (repeat' split at h) <;> simp only [Option.some.injEq, Prod.mk.injEq, reduceCtorEq] at h
    · rw [← h.2]; rfl
    · rw [← h.2]; rfl
  case makeSlice t l c =>
    (repeat' split at h) <;> simp only [Option.some.injEq, Prod.mk.injEq, reduceCtorEq] at h
    rw [← h.2]; rfl

/-- A step of one operation, whatever is known of calls. -/
def SV (P : Program) (ops : Array Oper) (o : Oper) (ts : List AV) (s : AS) (v : AV) (s' : AS) : Prop :=
  ∃ rec : Task → Option Res, (∀ t r, rec t = some r → Sound P t r) ∧ stepV P rec ops o ts s = some (v, s')
def StageR (P : Program) (ops : Array Oper) (k : Nat) : List Nat → List AV → AS → List TE → List AV → AS → List TE → Prop
  | [], ts, s, tr, ts', s', tr' => ts' = ts ∧ s' = s ∧ tr' = tr
  | i :: l, ts, s, tr, ts', s', tr' => ∃ o v s1, ops[i]? = some o ∧ SV P ops o ts s v s1 ∧ StageR P ops k l (putA ts o.dst v) s1 (⟨i, ts, s.nx, k, v, s.h.wr⟩ :: tr) ts' s' tr'
def StagesR (P : Program) (ops : Array Oper) (bf es : List Nat) : List Nat → Nat → List AV → AS → List TE → List AS → List AV → AS → List TE → List AS → Prop
  | [], k, ts, s, tr, gs, ts', s', tr', gs' => StageR P ops k (stageOf bf es k ops.toList 0) ts s tr ts' s' tr' ∧ gs' = s' :: gs
  | e :: rest, k, ts, s, tr, gs, ts', s', tr', gs' => ∃ ts1 s1 tr1 o v s2, StageR P ops k (stageOf bf es k ops.toList 0) ts s tr ts1 s1 tr1 ∧ ops[e]? = some o ∧ SV P ops o ts1 s1 v s2 ∧
      StagesR P ops bf es rest (k + 1) (putA ts1 o.dst v) s2 (⟨e, ts1, s1.nx, k, v, s1.h.wr⟩ :: tr1) (s1 :: gs) ts' s' tr' gs'

theorem stageRun_R (hrec : ∀ t r, rec t = some r → Sound P t r) {k : Nat} : ∀ (l : List Nat) (ts : List AV) (s : AS) (tr : List TE) (ts' : List AV) (s' : AS) (tr' : List TE), stageRun P rec ops k l ts s tr = some (ts', s', tr') →
    StageR P ops k l ts s tr ts' s' tr'
  | [], ts, s, tr, ts', s', tr', h => by
    simp only [stageRun, Option.some.injEq, Prod.mk.injEq] at h
    obtain ⟨rfl, rfl, rfl⟩ := h
    exact ⟨rfl, rfl, rfl⟩
  | i :: l, ts, s, tr, ts', s', tr', h => by
    simp only [stageRun] at h
    split at h
    · rename_i o ho
      split at h
      · rename_i v s1 hv
        exact ⟨o, v, s1, ho, ⟨rec, hrec, hv⟩, stageRun_R hrec l _ s1 _ ts' s' tr' h⟩
      · simp at h
    · simp at h
theorem stages_R (hrec : ∀ t r, rec t = some r → Sound P t r) {bf es : List Nat} : ∀ (rest : List Nat) (k : Nat) (ts : List AV) (s : AS) (tr : List TE) (gs : List AS) (ts' : List AV) (s' : AS) (tr' : List TE) (gs' : List AS),
    stages P rec ops bf es rest k ts s tr gs = some (ts', s', tr', gs') → StagesR P ops bf es rest k ts s tr gs ts' s' tr' gs'
  | [], k, ts, s, tr, gs, ts', s', tr', gs', h => by
    unfold stages at h
    split at h
    · rename_i ts1 s1 tr1 h1
      simp only [Option.some.injEq, Prod.mk.injEq] at h
      obtain ⟨rfl, rfl, rfl, rfl⟩ := h
      exact ⟨stageRun_R hrec _ _ _ _ _ _ _ h1, rfl⟩
    · simp at h
  | e :: rest, k, ts, s, tr, gs, ts', s', tr', gs', h => by
    unfold stages at h
    split at h
    · rename_i ts1 s1 tr1 h1
      dsimp only at h
      split at h
      · rename_i o ho
        split at h
        · rename_i v s2 hv
          exact ⟨ts1, s1, tr1, o, v, s2, stageRun_R hrec _ _ _ _ _ _ _ h1, ho, ⟨rec, hrec, hv⟩, stages_R hrec rest (k + 1) _ s2 _ _ ts' s' tr' gs' h⟩
        · simp at h
      · simp at h
    · simp at h

theorem stageRun_spec {k : Nat} : ∀ (l : List Nat) (ts : List AV) (s : AS) (tr : List TE) (ts' : List AV) (s' : AS) (tr' : List TE), StageR P ops k l ts s tr ts' s' tr' →
    (∀ i ∈ l, ∀ o, ops[i]? = some o → isE o = false) → ∃ st, tr' = st.reverse ++ tr ∧ ts' = tsOf ops st ts ∧ StageOk P ops k l ts s st s'
  | [], ts, s, tr, ts', s', tr', h, _ => by
    obtain ⟨rfl, rfl, rfl⟩ := h
    exact ⟨[], rfl, rfl, rfl, trivial, .refl _, trivial, by simp⟩
  | i :: l, ts, s, tr, ts', s', tr', h, hne => by
    obtain ⟨o, v, s1, ho, ⟨rec, _, hv⟩, h⟩ := h
    · skip
      · skip
        obtain ⟨st, h1, h2, h3⟩ := stageRun_spec l _ s1 _ ts' s' tr' h (fun j hj => hne j (by simp [hj]))
        have hd : dstOf ops i = o.dst := by simp [dstOf, ho]
        have hE := hne i (by simp) o ho
        unfold stepV at hv
        split at hv
        · cases hv
        rename_i hgj
        -- what the step did
        have hstep : (wantedA ops ts o = false ∧ v = undefA ∧ s1 = s) ∨ (wantedA ops ts o = true ∧
            ((kindOf o.op = .P ∧ (∀ s2, valA P ts s2 o.op = some v) ∧ s1 = s) ∨ (kindOf o.op = .R ∧ valA P ts s o.op = some v ∧ s1 = s) ∨ (kindOf o.op = .A ∧ ∃ ob, allocA P ts s.nx o.op = some (v, ob) ∧ s1 = s.push ob))) := by
          split at hv
          · rename_i hw
            refine .inr ⟨hw, ?_⟩
            unfold opA at hv
            unfold isE at hE
            cases hk : kindOf o.op with
            | P =>
              rw [hk] at hv
              try simp only at hv
              split at hv
              · rename_i hvv
                simp only [Option.some.injEq, Prod.mk.injEq] at hv
                split at hvv
                · rename_i v2 hv2
                  simp only [Option.some.injEq, Out.val.injEq] at hvv
                  refine .inl ⟨rfl, fun s2 => ?_, by rw [← hv.2, ← hvv.2]⟩
                  rw [← valA_pure o.op hk, hv2, hvv.1, hv.1]
                · simp at hvv
              · rename_i hvv
                split at hvv <;> simp at hvv
              · simp at hv
            | R =>
              rw [hk] at hv
              try simp only at hv
              split at hv
              · rename_i hvv
                simp only [Option.some.injEq, Prod.mk.injEq] at hv
                split at hvv
                · rename_i v2 hv2
                  simp only [Option.some.injEq, Out.val.injEq] at hvv
                  exact .inr (.inl ⟨rfl, by rw [hv2, hvv.1, hv.1], by rw [← hv.2, ← hvv.2]⟩)
                · simp at hvv
              · rename_i hvv
                split at hvv <;> simp at hvv
              · simp at hv
            | A =>
              rw [hk] at hv
              try simp only at hv
              split at hv
              · rename_i hvv
                simp only [Option.some.injEq, Prod.mk.injEq] at hv
                split at hvv
                · rename_i v2 ob hal
                  simp only [Option.some.injEq, Out.val.injEq] at hvv
                  exact .inr (.inr ⟨rfl, ob, by rw [hal, hvv.1, hv.1], by rw [← hv.2, ← hvv.2]⟩)
                · simp at hvv
              · rename_i hvv
                split at hvv <;> simp at hvv
              · simp at hv
            | E => rw [hk] at hE; simp at hE
            | X => rw [hk] at hv; simp at hv
          · rename_i hw
            simp only [Option.some.injEq, Prod.mk.injEq] at hv
            exact .inl ⟨by simpa using hw, hv.1.symm, hv.2.symm⟩
        have hgrow1 : Grow s s1 := by
          rcases hstep with ⟨_, _, e⟩ | ⟨_, ⟨_, _, e⟩ | ⟨_, _, e⟩ | ⟨_, ob, hal, e⟩⟩
          · rw [e]; exact .refl _
          · rw [e]; exact .refl _
          · rw [e]; exact .refl _
          · rw [e]; exact .step _ (.refl _) (allocA_rw hal)
        have hmk : Mk ops ⟨i, ts, s.nx, k, v, s.h.wr⟩ → s.nx < s1.nx := by
          rintro ⟨o', ho', hw', hk'⟩
          simp only at ho' hw'
          rw [ho] at ho'
          simp only [Option.some.injEq] at ho'
          subst ho'
          rcases hstep with ⟨e, _, _⟩ | ⟨_, ⟨e, _, _⟩ | ⟨e, _⟩ | ⟨_, ob, hal, e⟩⟩
          · rw [e] at hw'; cases hw'
          · rw [e] at hk'; cases hk'
          · rw [e] at hk'; cases hk'
          · rw [e]; simp
        refine ⟨⟨i, ts, s.nx, k, v, s.h.wr⟩ :: st, by simp [h1], by rw [h2]; simp [tsOf, hd], ?_, ⟨rfl, ?_⟩, hgrow1.trans h3.grow, ⟨?_, h3.sep⟩, ?_⟩
        · simp [h3.idx]
        · rw [hd]; exact h3.chain
        · intro hm y hy
          have := (h3.each y hy).2.1
          have := hmk hm
          simp only
          omega
        · intro x hx
          rcases List.mem_cons.1 hx with rfl | hx
          · refine ⟨rfl, Nat.le_refl _, fun hm => ?_, o, ho, hE, by simpa using hgj, ?_⟩
            · have h5 := hmk hm
              have h6 := h3.grow.nx
              show s.nx < s'.nx
              omega
            · rcases hstep with ⟨e1, e2, _⟩ | ⟨e1, ⟨e2, e3, _⟩ | ⟨e2, e3, _⟩ | ⟨e2, ob, hal, e3⟩⟩
              · exact .inl ⟨e1, e2⟩
              · exact .inr ⟨e1, .inl ⟨e2, e3⟩⟩
              · exact .inr ⟨e1, .inr (.inl ⟨e2, s, e3, rfl, rfl, hgrow1.trans h3.grow⟩)⟩
              · refine .inr ⟨e1, .inr (.inr ⟨e2, ob, hal, ?_, allocA_rw hal⟩)⟩
                show s'.get s.nx = some ob
                rw [h3.grow.get (by rw [e3]; simp), e3, AS.get_push, if_pos rfl]
          · obtain ⟨k1, k2, k3, k4⟩ := h3.each x hx
            exact ⟨k1, Nat.le_trans hgrow1.nx k2, k3, k4⟩

/-- The whole run in our order, stage by stage. -/
def Can (P : Program) (ops : Array Oper) (bf es : List Nat) : List Nat → Nat → List AV → AS → List TE → List AS → Prop
  | [], k, ts, s, new, gs => ∃ G, gs = [G] ∧ StageOk P ops k (stageOf bf es k ops.toList 0) ts s new G
  | e :: rest, k, ts, s, new, gs => ∃ st G x o F new' gs', gs = G :: gs' ∧ new = st ++ x :: new' ∧ StageOk P ops k (stageOf bf es k ops.toList 0) ts s st G ∧ x.i = e ∧ ops[e]? = some o ∧ x.k = k ∧
      x.ts = tsOf ops st ts ∧ SV P ops o x.ts G x.v F ∧ Can P ops bf es rest (k + 1) (putA x.ts o.dst x.v) F new' gs'

theorem stageOf_mem {bf es : List Nat} {k : Nat} : ∀ {l : List Oper} {j i : Nat}, i ∈ stageOf bf es k l j → j ≤ i ∧ lastE bf es i = k ∧ ∃ o, l[i - j]? = some o ∧ isE o = false
  | [], j, i, h => by simp [stageOf] at h
  | o :: l, j, i, h => by
    have tail : i ∈ stageOf bf es k l (j + 1) → j ≤ i ∧ lastE bf es i = k ∧ ∃ o', (o :: l)[i - j]? = some o' ∧ isE o' = false := by
      intro h'
      obtain ⟨h1, h2, o', h3, h4⟩ := stageOf_mem h'
      refine ⟨by omega, h2, o', ?_, h4⟩
      rw [show i - j = (i - (j + 1)) + 1 from by omega]
      simpa using h3
    simp only [stageOf] at h
    split at h
    · rename_i hc
      simp only [Bool.and_eq_true, Bool.not_eq_true'] at hc
      rcases List.mem_cons.1 h with rfl | h
      · exact ⟨Nat.le_refl _, by simpa using hc.2, o, by simp, hc.1⟩
      · exact tail h
    · exact tail h

theorem stageOf_ne {bf es : List Nat} {k : Nat} : ∀ i ∈ stageOf bf es k ops.toList 0, ∀ o, ops[i]? = some o → isE o = false := by
  intro i hi o ho
  obtain ⟨_, _, o', h1, h2⟩ := stageOf_mem hi
  have : ops[i]? = some o' := by simpa using h1
  rw [ho] at this
  simp only [Option.some.injEq] at this
  rw [this]
  exact h2

theorem stages_spec {bf es : List Nat} : ∀ (rest : List Nat) (k : Nat) (ts : List AV) (s : AS) (tr : List TE) (gs : List AS) (ts' : List AV) (s' : AS) (tr' : List TE) (gs' : List AS),
    StagesR P ops bf es rest k ts s tr gs ts' s' tr' gs' → ∃ new gn, tr' = new.reverse ++ tr ∧ gs' = gn.reverse ++ gs ∧ ts' = tsOf ops new ts ∧ Can P ops bf es rest k ts s new gn ∧ gn.getLast? = some s'
  | [], k, ts, s, tr, gs, ts', s', tr', gs', h => by
    obtain ⟨h1, rfl⟩ := h
    obtain ⟨st, k1, k2, k3⟩ := stageRun_spec _ _ _ _ _ _ _ h1 stageOf_ne
    exact ⟨st, [s'], k1, rfl, k2, ⟨s', rfl, k3⟩, rfl⟩
  | e :: rest, k, ts, s, tr, gs, ts', s', tr', gs', h => by
    obtain ⟨ts1, s1, tr1, o, v, s2, h1, ho, hv, h⟩ := h
    obtain ⟨st, k1, k2, k3⟩ := stageRun_spec _ _ _ _ _ _ _ h1 stageOf_ne
    obtain ⟨new, gn, m1, m2, m3, m4, m5⟩ := stages_spec rest (k + 1) _ s2 _ _ ts' s' tr' gs' h
    have hd : dstOf ops e = o.dst := by simp [dstOf, ho]
    refine ⟨st ++ ⟨e, ts1, s1.nx, k, v, s1.h.wr⟩ :: new, s1 :: gn, by rw [m1, k1]; simp, by rw [m2]; simp, ?_, ⟨st, s1, _, o, s2, new, gn, rfl, rfl, k3, rfl, ho, rfl, k2, hv, m4⟩, ?_⟩
    · rw [m3, tsOf_append, ← k2]
      simp [tsOf, hd]
    · rw [List.getLast?_cons, m5]
      rfl
end
end Go.Mini

namespace Go.Mini
open Go Go.RowKit
section
variable {P : Program} {B : Base} {ρ : Ren} {s : AS} {w : World}

/-- A block that nothing of the model stands for yet. -/
theorem Rel.pushNone (R : Rel P B ρ s w) (o : AObj) : Rel P B ρ (s.push o) w := by
  have hf : ρ s.nx = none := R.fresh _ (Nat.le_refl _)
  have old : ∀ {b q L}, (s.push o).get b = some q → ρ b = some L → s.get b = some q := by
    intro b q L h hL
    rw [AS.get_push] at h
    split at h
    · rename_i e; subst e; rw [hf] at hL; cases hL
    · exact h
  refine ⟨R.below, R.glob, fun b hb => R.fresh b (by simp at hb; omega), ?_, R.lt, fun b q L h hL => R.obj b q L (old h hL) hL, fun b q L h hr hL => R.own b q L (old h hL) hr hL,
    fun b cs L h hL => R.ros b cs L (old h hL) hL, fun b b' q q' L L' h h' hr hr' hL hL' => R.inj b b' q q' L L' (old h hL) (old h' hL') hr hr' hL hL'⟩
  intro k hk
  have hk' : k ∈ keysOf (s.push o) := hk
  rw [AS.keys_push] at hk'
  simp only [AS.nx_push]
  rcases List.mem_cons.1 hk' with h | h
  · omega
  · have := R.keys k h; omega
theorem Rel.grow {t : AS} (R : Rel P B ρ s w) (h : Grow s t) : Rel P B ρ t w := by
  induction h with
  | refl => exact R
  | step o _ _ ih => exact ih.pushNone o
/-- The model makes the block, later. -/
theorem Rel.materialize (R : Rel P B ρ s w) {b sz : Nat} {o : AObj} {c : Obj} (hb : s.get b = some o) (hr : o.rw = true) (hn : ρ b = none) (hc : OO ρ o ⟨w.heap.size, 0, sz⟩ c) :
    Rel P B (upd ρ b ⟨w.heap.size, 0, sz⟩) s (w.alloc c) := by
  have hmono := upd_mono (L := ⟨w.heap.size, 0, sz⟩) hn
  have hlt := R.key_lt hb
  have cases' : ∀ {x L}, upd ρ b ⟨w.heap.size, 0, sz⟩ x = some L → (x = b ∧ L = ⟨w.heap.size, 0, sz⟩) ∨ (x ≠ b ∧ ρ x = some L) := by
    intro x L h
    by_cases hx : x = b
    · subst hx
      rw [upd_same] at h
      simp only [Option.some.injEq] at h
      exact .inl ⟨rfl, h.symm⟩
    · rw [upd_other _ _ _ hx] at h
      exact .inr ⟨hx, h⟩
  refine ⟨(R.below).alloc R.K_lt _, ?_, ?_, R.keys, ?_, ?_, ?_, ?_, ?_⟩
  · intro g hg
    obtain ⟨M, h1, h2⟩ := R.glob g hg
    exact ⟨M, hmono _ _ h1, h2⟩
  · intro x hx
    rw [upd_other _ _ _ (by omega)]
    exact R.fresh x hx
  · intro x L h
    simp only [World.size_alloc]
    rcases cases' h with ⟨_, rfl⟩ | ⟨_, h⟩
    · exact Nat.lt_succ_self _
    · have := R.lt x L h; omega
  · intro x q L h hL
    rcases cases' hL with ⟨rfl, rfl⟩ | ⟨_, hL⟩
    · rw [hb] at h
      simp only [Option.some.injEq] at h
      subst h
      exact ⟨c, heap_alloc_new w c, hc.mono hmono⟩
    · obtain ⟨c', h1, h2⟩ := R.obj x q L h hL
      exact ⟨c', by rw [Below.heap_alloc w c L.c (R.lt x L hL)]; exact h1, h2.mono hmono⟩
  · intro x q L h hr' hL
    rcases cases' hL with ⟨rfl, rfl⟩ | ⟨_, hL⟩
    · exact R.new_free
    · exact R.own x q L h hr' hL
  · intro x cs L h hL
    rcases cases' hL with ⟨rfl, rfl⟩ | ⟨_, hL⟩
    · rw [hb] at h
      simp only [Option.some.injEq] at h
      subst h
      simp [AObj.rw] at hr
    · exact R.ros x cs L h hL
  · intro x y q q' L L' h h' hq hq' hL hL' he
    rcases cases' hL with ⟨e1, e2⟩ | ⟨_, k1⟩ <;> rcases cases' hL' with ⟨e3, e4⟩ | ⟨_, k2⟩
    · rw [e1, e3]
    · have := R.lt y L' k2; rw [e2] at he; simp only at he; omega
    · have := R.lt x L k1; rw [e4] at he; simp only at he; omega
    · exact R.inj x y q q' L L' h h' hq hq' k1 k2 he
end

/-! ### what drawOk says -/
structure DrawStat (ops : Array Oper) : Prop where
  chain : chainOk (befores ops) (effsOf ops.toList 0) = true
  lin : linOk (befores ops) (orderOf ops.toList (befores ops) (effsOf ops.toList 0) (effsOf ops.toList 0) 0) = true
  all : ∀ i, i < ops.size → i ∈ orderOf ops.toList (befores ops) (effsOf ops.toList 0) (effsOf ops.toList 0) 0
  kind : ∀ (j : Nat) (o : Oper), ops[j]? = some o → kindOf o.op ≠ .X ∧ (kindOf o.op = .R → o.dst.isSome = true)
  edge : ∀ (j : Nat) (o : Oper), ops[j]? = some o → ∀ e ∈ o.after, Region.binds .any e = true → e.on < j
  pair : ∀ (i j : Nat) (oi oj : Oper), ops[i]? = some oi → ops[j]? = some oj → i < j → ((befores ops).getD j 0).testBit i = true ∨ oi.apart ops oj = true

theorem drawOk_stat {ops : Array Oper} (h : drawOk ops = true) : DrawStat ops := by
  unfold drawOk at h
  simp only [Bool.and_eq_true] at h
  obtain ⟨⟨⟨h1, h2⟩, h3⟩, h4⟩ := h
  have h4' : ∀ j o, ops[j]? = some o → _ := fun j o ho => by
    have hlt : j < ops.toList.length := by have := (Array.getElem?_eq_some_iff.1 ho).1; simpa using this
    have := List.all_eq_true.1 h4 j (List.mem_range.2 hlt)
    have ho' : ops.toList[j]? = some o := by simpa using ho
    rw [ho'] at this
    simpa only [Bool.and_eq_true] using this
  refine ⟨h1, h2, ?_, ?_, ?_, ?_⟩
  · intro i hi
    have := List.all_eq_true.1 h3 i (List.mem_range.2 (by simpa using hi))
    simpa using this
  · intro j o ho
    have := (h4' j o ho).1.1
    cases hk : kindOf o.op <;> rw [hk] at this <;> simp at this ⊢ <;> exact this
  · intro j o ho e he hb
    have := List.all_eq_true.1 (h4' j o ho).1.2 e (by simpa using he)
    rw [hb] at this
    simpa using this
  · intro i j oi oj hi hj hij
    have := List.all_eq_true.1 (h4' j oj hj).2 i (List.mem_range.2 hij)
    have hi' : ops.toList[i]? = some oi := by simpa using hi
    rw [hi'] at this
    simpa using this

theorem linOk_pair {bf : List Nat} : ∀ {l : List Nat}, linOk bf l = true → ∀ {l1 : List Nat} {x : Nat} {l2 : List Nat}, l = l1 ++ x :: l2 → ∀ y ∈ l2, (bf.getD x 0).testBit y = false ∧ x ≠ y
  | [], _, l1, x, l2, h, _, _ => by cases l1 <;> simp at h
  | z :: l, h, [], x, l2, he, y, hy => by
    simp only [List.nil_append, List.cons.injEq] at he
    obtain ⟨rfl, rfl⟩ := he
    simp only [linOk, Bool.and_eq_true] at h
    have := List.all_eq_true.1 h.1 y hy
    simp only [Bool.and_eq_true, Bool.not_eq_true'] at this
    exact ⟨this.1, fun e => by subst e; simp at this⟩
  | z :: l, h, w :: l1, x, l2, he, y, hy => by
    simp only [List.cons_append, List.cons.injEq] at he
    obtain ⟨rfl, he⟩ := he
    simp only [linOk, Bool.and_eq_true] at h
    exact linOk_pair h.2 he y hy

theorem chainOk_pair {bf : List Nat} : ∀ {l : List Nat}, chainOk bf l = true → ∀ {l1 : List Nat} {x : Nat} {l2 : List Nat}, l = l1 ++ x :: l2 → ∀ y ∈ l2, (bf.getD y 0).testBit x = true
  | [], _, l1, x, l2, h, _, _ => by cases l1 <;> simp at h
  | z :: l, h, [], x, l2, he, y, hy => by
    simp only [List.nil_append, List.cons.injEq] at he
    obtain ⟨rfl, rfl⟩ := he
    simp only [chainOk, Bool.and_eq_true] at h
    exact List.all_eq_true.1 h.1 y hy
  | z :: l, h, w :: l1, x, l2, he, y, hy => by
    simp only [List.cons_append, List.cons.injEq] at he
    obtain ⟨rfl, he⟩ := he
    simp only [chainOk, Bool.and_eq_true] at h
    exact chainOk_pair h.2 he y hy

theorem effsOf_mem : ∀ {l : List Oper} {j i : Nat}, i ∈ effsOf l j ↔ j ≤ i ∧ ∃ o, l[i - j]? = some o ∧ isE o = true
  | [], j, i => by simp [effsOf]
  | o :: l, j, i => by
    have step : (j + 1 ≤ i ∧ ∃ o', l[i - (j + 1)]? = some o' ∧ isE o' = true) ↔ (j ≤ i ∧ i ≠ j ∧ ∃ o', (o :: l)[i - j]? = some o' ∧ isE o' = true) := by
      constructor
      · rintro ⟨h1, o', h2, h3⟩
        refine ⟨by omega, by omega, o', ?_, h3⟩
        rw [show i - j = (i - (j + 1)) + 1 from by omega]
        simpa using h2
      · rintro ⟨h1, h2, o', h3, h4⟩
        refine ⟨by omega, o', ?_, h4⟩
        rw [show i - j = (i - (j + 1)) + 1 from by omega] at h3
        simpa using h3
    simp only [effsOf]
    split
    · rename_i hE
      rw [List.mem_cons, effsOf_mem, step]
      constructor
      · rintro (rfl | ⟨h1, _, h2⟩)
        · exact ⟨Nat.le_refl _, o, by simp, hE⟩
        · exact ⟨h1, h2⟩
      · rintro ⟨h1, h2⟩
        by_cases hij : i = j
        · exact .inl hij
        · exact .inr ⟨h1, hij, h2⟩
    · rename_i hE
      rw [effsOf_mem, step]
      constructor
      · rintro ⟨h1, _, h2⟩; exact ⟨h1, h2⟩
      · rintro ⟨h1, o', h2, h3⟩
        refine ⟨h1, ?_, o', h2, h3⟩
        rintro rfl
        simp at h2
        subst h2
        exact hE h3

section
variable {P : Program} {ops : Array Oper} {bf es : List Nat}

theorem can_order : ∀ {rest : List Nat} {k : Nat} {ts : List AV} {s : AS} {new : List TE} {gs : List AS}, Can P ops bf es rest k ts s new gs → new.map (·.i) = orderOf ops.toList bf es rest k
  | [], k, ts, s, new, gs, h => by
    obtain ⟨G, _, h⟩ := h
    simpa [orderOf] using h.idx
  | e :: rest, k, ts, s, new, gs, h => by
    obtain ⟨st, G, x, o, F, new', gs', _, rfl, h1, h2, _, _, _, _, h3⟩ := h
    simp only [List.map_append, List.map_cons, orderOf, h1.idx, h2, can_order h3]
theorem chain_append : ∀ {l m : List TE} {ts : List AV}, Chain ops l ts → Chain ops m (tsOf ops l ts) → Chain ops (l ++ m) ts
  | [], _, _, _, h => h
  | _ :: _, _, _, h1, h2 => ⟨h1.1, chain_append h1.2 h2⟩
theorem chain_at : ∀ (l m : List TE) (x : TE) (ts : List AV), Chain ops (l ++ x :: m) ts → x.ts = tsOf ops l ts
  | [], _, _, _, h => h.1
  | _ :: l, m, x, _, h => chain_at l m x _ h.2
theorem can_chain : ∀ {rest : List Nat} {k : Nat} {ts : List AV} {s : AS} {new : List TE} {gs : List AS}, Can P ops bf es rest k ts s new gs → Chain ops new ts
  | [], k, ts, s, new, gs, h => by
    obtain ⟨G, _, h⟩ := h
    exact h.chain
  | e :: rest, k, ts, s, new, gs, h => by
    obtain ⟨st, G, x, o, F, new', gs', _, rfl, h1, h2, ho, _, h4, _, h3⟩ := h
    refine chain_append h1.chain ⟨h4, ?_⟩
    have hd : dstOf ops x.i = o.dst := by rw [h2]; simp [dstOf, ho]
    rw [hd, ← h4]
    exact can_chain h3
theorem can_le : ∀ {rest : List Nat} {k : Nat} {ts : List AV} {s : AS} {new : List TE} {gs : List AS}, Can P ops bf es rest k ts s new gs → ∀ y ∈ new, k ≤ y.k
  | [], k, ts, s, new, gs, h, y, hy => by
    obtain ⟨G, _, h⟩ := h
    exact Nat.le_of_eq (h.each y hy).1.symm
  | e :: rest, k, ts, s, new, gs, h, y, hy => by
    obtain ⟨st, G, x, o, F, new', gs', _, rfl, h1, h2, ho, h5, h4, _, h3⟩ := h
    rcases List.mem_append.1 hy with hy | hy
    · exact Nat.le_of_eq (h1.each y hy).1.symm
    · rcases List.mem_cons.1 hy with rfl | hy
      · exact Nat.le_of_eq h5.symm
      · have := can_le h3 y hy; omega
theorem can_ne (hes : ∀ e ∈ es, ∀ o, ops[e]? = some o → isE o = true) : ∀ {rest : List Nat} {k : Nat} {ts : List AV} {s : AS} {new : List TE} {gs : List AS}, Can P ops bf es rest k ts s new gs → (∀ e ∈ rest, e ∈ es) →
    ∀ y ∈ new, ∀ o, ops[y.i]? = some o → isE o = false → lastE bf es y.i = y.k ∧ k ≤ y.k ∧ ∃ G, gs[y.k - k]? = some G ∧ NE P ops y G
  | [], k, ts, s, new, gs, h, _, y, hy, o, ho, hE => by
    obtain ⟨G, hgs, h⟩ := h
    have hm : y.i ∈ stageOf bf es k ops.toList 0 := by rw [← h.idx]; exact List.mem_map.2 ⟨y, hy, rfl⟩
    have hk := (h.each y hy).1
    exact ⟨by rw [hk]; exact (stageOf_mem hm).2.1, by omega, G, by rw [hgs, hk]; simp, (h.each y hy).2.2.2⟩
  | e :: rest, k, ts, s, new, gs, h, hr, y, hy, o, ho, hE => by
    obtain ⟨st, G, x, o', F, new', gs', hgs, rfl, h1, h2, ho', h5, h4, _, h3⟩ := h
    rcases List.mem_append.1 hy with hy | hy
    · have hm : y.i ∈ stageOf bf es k ops.toList 0 := by rw [← h1.idx]; exact List.mem_map.2 ⟨y, hy, rfl⟩
      have hk := (h1.each y hy).1
      exact ⟨by rw [hk]; exact (stageOf_mem hm).2.1, by omega, G, by rw [hgs, hk]; simp, (h1.each y hy).2.2.2⟩
    · rcases List.mem_cons.1 hy with rfl | hy
      · rw [h2] at ho
        rw [hes e (hr e (by simp)) o ho] at hE
        cases hE
      · obtain ⟨r1, r2, G2, r3, r4⟩ := can_ne hes h3 (fun e' he' => hr e' (by simp [he'])) y hy o ho hE
        refine ⟨r1, by omega, G2, ?_, r4⟩
        rw [hgs, show y.k - k = (y.k - (k + 1)) + 1 from by omega]
        simpa using r3
end
end Go.Mini

namespace Go.Mini
open Go Go.RowKit

theorem bytes_beq {x y : ByteArray} (h : (x == y) = true) : x = y := by
  rw [beq_toListBytes, ByteArray.toList_eq, ByteArray.toList_eq] at h
  have h' : x.data.toList = y.data.toList := by simpa using h
  obtain ⟨a⟩ := x
  obtain ⟨b⟩ := y
  simp only at h'
  rw [Array.ext' h']

mutual
theorem AV.beq_eq : ∀ {a b : AV}, AV.beq a b = true → a = b
  | .bool x, b, h => by cases b <;> simp [AV.beq] at h ⊢; exact h
  | .int k n, b, h => by cases b <;> simp [AV.beq] at h ⊢; exact h
  | .str x, b, h => by cases b <;> simp [AV.beq] at h ⊢; exact bytes_beq h
  | .nilPtr, b, h => by cases b <;> simp [AV.beq] at h ⊢
  | .ptr x y, b, h => by cases b <;> simp [AV.beq] at h ⊢; exact h
  | .nilSlice, b, h => by cases b <;> simp [AV.beq] at h ⊢
  | .slice x y z u, b, h => by cases b <;> simp [AV.beq] at h ⊢; exact ⟨h.1.1.1, h.1.1.2, h.1.2, h.2⟩
  | .osl x y z u, b, h => by cases b <;> simp [AV.beq] at h ⊢; exact ⟨h.1.1.1, h.1.1.2, h.1.2, h.2⟩
  | .nilMap, b, h => by cases b <;> simp [AV.beq] at h ⊢
  | .map x, b, h => by cases b <;> simp [AV.beq] at h ⊢; exact h
  | .func f x y, b, h => by
    cases b <;> simp [AV.beq] at h ⊢
    exact ⟨h.1.1, AV.beqs_eq h.1.2, AV.beqs_eq h.2⟩
  | .nilFunc, b, h => by cases b <;> simp [AV.beq] at h ⊢
  | .iface t x, b, h => by
    cases b <;> simp [AV.beq] at h ⊢
    exact ⟨h.1, AV.beq_eq h.2⟩
  | .nilIface, b, h => by cases b <;> simp [AV.beq] at h ⊢
  | .agg x, b, h => by
    cases b <;> simp [AV.beq] at h ⊢
    exact AV.beqs_eq h
  | .tuple x, b, h => by
    cases b <;> simp [AV.beq] at h ⊢
    exact AV.beqs_eq h
theorem AV.beqs_eq : ∀ {a b : List AV}, AV.beqs a b = true → a = b
  | [], b, h => by simp [AV.beqs] at h; exact h.symm
  | x :: xs, b, h => by
    cases b with
    | nil => simp [AV.beqs] at h
    | cons y ys =>
      simp [AV.beqs] at h
      rw [AV.beq_eq h.1, AV.beqs_eq h.2]
end

section
variable {P : Program} {ops : Array Oper} {bf es : List Nat}

theorem heapsOk_at {T : List TE} : ∀ {gs : List AS} {k j : Nat} {G : AS}, heapsOk P ops bf es T k gs = true → gs[j]? = some G → ∀ x ∈ T, readOk P ops bf es G (k + j) x = true
  | [], _, _, _, _, h, _, _ => by simp at h
  | s :: gs, k, 0, G, h, hg, x, hx => by
    simp only [List.getElem?_cons_zero, Option.some.injEq] at hg
    subst hg
    simp only [heapsOk, Bool.and_eq_true] at h
    exact List.all_eq_true.1 h.1 x hx
  | s :: gs, k, j + 1, G, h, hg, x, hx => by
    simp only [List.getElem?_cons_succ] at hg
    simp only [heapsOk, Bool.and_eq_true] at h
    rw [show k + (j + 1) = k + 1 + j from by omega]
    exact heapsOk_at h.2 hg x hx

theorem countB_append (p : Nat → Bool) : ∀ (l m : List Nat), countB p (l ++ m) = countB p l + countB p m
  | [], m => by simp [countB]
  | x :: l, m => by
    simp only [List.cons_append, countB, countB_append p l m]
    split <;> omega
theorem countB_le (p : Nat → Bool) : ∀ (l : List Nat), countB p l ≤ l.length
  | [] => Nat.le_refl _
  | x :: l => by
    simp only [countB, List.length_cons]
    have := countB_le p l
    split <;> omega
theorem countB_all {p : Nat → Bool} : ∀ {l : List Nat}, (∀ x ∈ l, p x = true) → countB p l = l.length
  | [], _ => rfl
  | x :: l, h => by
    simp only [countB, List.length_cons]
    rw [if_pos (h x (by simp)), countB_all (fun y hy => h y (by simp [hy]))]
theorem countB_none {p : Nat → Bool} : ∀ {l : List Nat}, (∀ x ∈ l, p x = false) → countB p l = 0
  | [], _ => rfl
  | x :: l, h => by
    simp only [countB]
    rw [if_neg (by rw [h x (by simp)]; simp), countB_none (fun y hy => h y (by simp [hy]))]

/-- What is listed is closed under what comes ahead. -/
def Closed (ops : Array Oper) (D : Nat → Bool) : Prop := ∀ i, D i = true → ∀ k, ((befores ops).getD i 0).testBit k = true → D k = true

theorem ready_before {listed : Array Bool} {i : Nat} (hr : i ∈ Region.ready .any ops listed) (hc : Closed ops (fun k => listed.getD k false)) {k : Nat} (h : ((befores ops).getD i 0).testBit k = true) : listed.getD k false = true := by
  obtain ⟨h0, o, ho, hall⟩ := mem_ready.1 hr
  obtain ⟨o', ho', e, he, hb, hk⟩ := befores_bit h
  rw [ho] at ho'
  simp only [Option.some.injEq] at ho'
  subst ho'
  have := hall e he hb
  rcases hk with rfl | hk
  · exact this
  · exact hc _ this _ hk
theorem ready_not {listed : Array Bool} {i : Nat} (hr : i ∈ Region.ready .any ops listed) : listed.getD i false = false := by
  have := (mem_ready.1 hr).1
  cases h : listed[i]? with
  | none => rw [Array.getD_eq_getD_getElem?, h] at this; simp at this
  | some b => rw [Array.getD_eq_getD_getElem?, h] at this ⊢; simpa using this

/-- Two that meet in a slot are ordered. -/
theorem meets {i j : Nat} {oi oj : Oper} (st : DrawStat ops) (hi : ops[i]? = some oi) (hj : ops[j]? = some oj) (hij : i ≠ j) (h : oi.apart ops oj = false ∨ oj.apart ops oi = false) :
    ((befores ops).getD j 0).testBit i = true ∨ ((befores ops).getD i 0).testBit j = true := by
  have sym : ∀ {x y : Oper}, x.apart ops y = true → y.apart ops x = true := by
    intro x y hxy
    obtain ⟨a1, a2, a3⟩ := Oper.apart_spec hxy
    unfold Oper.apart
    rw [Bool.and_eq_true]
    constructor
    · cases hd : y.dst with
      | none => rfl
      | some d =>
        simp only [Bool.and_eq_true, Bool.not_eq_true', bne_iff_ne]
        refine ⟨by simpa using a3 d hd, fun e => a2 d e hd⟩
    · cases hd : x.dst with
      | none => rfl
      | some d => simpa using a1 d hd
  rcases Nat.lt_or_ge i j with hlt | hge
  · rcases st.pair i j oi oj hi hj hlt with h1 | h1
    · exact .inl h1
    · rcases h with h | h
      · rw [h1] at h; cases h
      · rw [sym h1] at h; cases h
  · rcases st.pair j i oj oi hj hi (by omega) with h1 | h1
    · exact .inr h1
    · rcases h with h | h
      · rw [sym h1] at h; cases h
      · rw [h1] at h; cases h

theorem not_apart_looks {x y : Oper} {d : Nat} (hd : x.dst = some d) (hl : d ∈ y.looksAt ops) : x.apart ops y = false := by
  cases h : x.apart ops y with
  | false => rfl
  | true => exact absurd hl ((Oper.apart_spec h).1 d hd)
theorem not_apart_dst {x y : Oper} {d : Nat} (hd : x.dst = some d) (hl : y.dst = some d) : x.apart ops y = false := by
  cases h : x.apart ops y with
  | false => rfl
  | true => exact absurd hl ((Oper.apart_spec h).2.1 d hd)

/-- The list of what was done in our order. -/
structure Tr (ops : Array Oper) (T : List TE) (ts0 : List AV) : Prop where
  st : DrawStat ops
  chain : Chain ops T ts0
  order : T.map (·.i) = orderOf ops.toList (befores ops) (effsOf ops.toList 0) (effsOf ops.toList 0) 0

def tv (ops : Array Oper) (T : List TE) (ts0 : List AV) (D : Nat → Bool) : List AV := tsOf ops (T.filter fun x => D x.i) ts0

theorem tr_sep {T : List TE} {ts0 : List AV} (tr : Tr ops T ts0) {t1 t2 : List TE} {x : TE} (he : T = t1 ++ x :: t2) : ∀ y ∈ t2, ((befores ops).getD x.i 0).testBit y.i = false ∧ x.i ≠ y.i := by
  intro y hy
  have hl := tr.order
  rw [he] at hl
  simp only [List.map_append, List.map_cons] at hl
  exact linOk_pair tr.st.lin hl.symm y.i (List.mem_map.2 ⟨y, hy, rfl⟩)

theorem dst_of {y : TE} {t : Nat} (h : dstOf ops y.i = some t) : ∃ o, ops[y.i]? = some o ∧ o.dst = some t := by
  unfold dstOf at h
  cases ho : ops[y.i]? with
  | none => rw [ho] at h; simp at h
  | some o => rw [ho] at h; exact ⟨o, rfl, h⟩

theorem tr_facts {T : List TE} {ts0 : List AV} (tr : Tr ops T ts0) {D : Nat → Bool} (hc : Closed ops D) {x : TE} {o : Oper} (hx : x ∈ T) (ho : ops[x.i]? = some o) (hn : D x.i = false)
    (hb : ∀ k, ((befores ops).getD x.i 0).testBit k = true → D k = true) :
    (∀ t ∈ o.looksAt ops, (tv ops T ts0 D)[t]? = x.ts[t]?) ∧ tv ops T ts0 (fun i => D i || i == x.i) = putA (tv ops T ts0 D) o.dst x.v := by
  obtain ⟨t1, t2, he⟩ := List.append_of_mem hx
  have hxt : x.ts = tsOf ops t1 ts0 := chain_at t1 t2 x ts0 (he ▸ tr.chain)
  have hsep := tr_sep tr he
  have hsep1 : ∀ y ∈ t1, ((befores ops).getD y.i 0).testBit x.i = false ∧ y.i ≠ x.i := by
    intro y hy
    obtain ⟨a, b, hab⟩ := List.append_of_mem hy
    have : T = a ++ y :: (b ++ x :: t2) := by rw [he, hab]; simp
    exact tr_sep tr this x (by simp)
  -- who writes a slot that meets
  have later : ∀ y ∈ t2, D y.i = true → ∀ oy, ops[y.i]? = some oy → oy.apart ops o = true ∧ o.apart ops oy = true := by
    intro y hy hD oy hoy
    have hne := (hsep y hy).2
    have key : oy.apart ops o = false ∨ o.apart ops oy = false → False := by
      intro hh
      rcases meets tr.st hoy ho (Ne.symm hne) hh with h | h
      · rw [(hsep y hy).1] at h; cases h
      · have := hc _ hD _ h; rw [hn] at this; cases this
    constructor
    · cases h : oy.apart ops o with
      | true => rfl
      | false => exact (key (.inl h)).elim
    · cases h : o.apart ops oy with
      | true => rfl
      | false => exact (key (.inr h)).elim
  have earlier : ∀ y ∈ t1, D y.i = false → ∀ oy, ops[y.i]? = some oy → oy.apart ops o = true ∧ o.apart ops oy = true := by
    intro y hy hD oy hoy
    have hne := (hsep1 y hy).2
    have key : oy.apart ops o = false ∨ o.apart ops oy = false → False := by
      intro hh
      rcases meets tr.st hoy ho hne hh with h | h
      · have := hb _ h; rw [hD] at this; cases this
      · rw [(hsep1 y hy).1] at h; cases h
    constructor
    · cases h : oy.apart ops o with
      | true => rfl
      | false => exact (key (.inl h)).elim
    · cases h : o.apart ops oy with
      | true => rfl
      | false => exact (key (.inr h)).elim
  have hfil : T.filter (fun y => D y.i) = t1.filter (fun y => D y.i) ++ t2.filter (fun y => D y.i) := by
    rw [he, List.filter_append, List.filter_cons_of_neg (by simp [hn])]
  have hd : dstOf ops x.i = o.dst := by simp [dstOf, ho]
  refine ⟨fun t ht => ?_, ?_⟩
  · unfold tv
    rw [hfil, tsOf_append, tsOf_none, hxt]
    · refine tsOf_filter rfl rfl fun y hy hD hdy => ?_
      obtain ⟨oy, hoy, hdd⟩ := dst_of hdy
      have := not_apart_looks (ops := ops) hdd ht
      rw [(earlier y hy hD oy hoy).1] at this
      cases this
    · intro y hy hdy
      obtain ⟨hy1, hy2⟩ := List.mem_filter.1 hy
      obtain ⟨oy, hoy, hdd⟩ := dst_of hdy
      have := not_apart_looks (ops := ops) hdd ht
      rw [(later y hy1 (by simpa using hy2) oy hoy).1] at this
      cases this
  · have hfil2 : T.filter (fun y => D y.i || y.i == x.i) = t1.filter (fun y => D y.i) ++ x :: t2.filter (fun y => D y.i) := by
      rw [he, List.filter_append, List.filter_cons_of_pos (by simp)]
      congr 1
      · refine List.filter_congr fun y hy => ?_
        have := (hsep1 y hy).2
        simp [this]
      · congr 1
        refine List.filter_congr fun y hy => ?_
        have := (hsep y hy).2
        have : (y.i == x.i) = false := by simpa using Ne.symm this
        simp [this]
    unfold tv
    rw [hfil2, hfil, tsOf_append, tsOf_append]
    show tsOf ops _ (putA (tsOf ops _ ts0) (dstOf ops x.i) x.v) = _
    rw [hd]
    refine tsOf_put fun y hy t ht hdy => ?_
    obtain ⟨hy1, hy2⟩ := List.mem_filter.1 hy
    obtain ⟨oy, hoy, hdd⟩ := dst_of hdy
    have := not_apart_dst (ops := ops) ht hdd
    rw [(later y hy1 (by simpa using hy2) oy hoy).2] at this
    cases this
end
end Go.Mini

namespace Go.Mini
open Go Go.RowKit

section
variable {P : Program} {ops : Array Oper}

def Rest (P : Program) (ops : Array Oper) (es : List Nat) (j : Nat) (G : AS) (T2 : List TE) (gs : List AS) : List Nat → Prop
  | [] => T2 = [] ∧ gs = []
  | e :: r => ∃ x o F new', T2 = x :: new' ∧ x.i = e ∧ ops[e]? = some o ∧ x.k = j ∧ SV P ops o x.ts G x.v F ∧ Can P ops (befores ops) es r (j + 1) (putA x.ts o.dst x.v) F new' gs

theorem can_open {es : List Nat} {rest : List Nat} {k : Nat} {ts : List AV} {s : AS} {new : List TE} {gs : List AS} (h : Can P ops (befores ops) es rest k ts s new gs) :
    ∃ G st T2 gs', gs = G :: gs' ∧ new = st ++ T2 ∧ StageOk P ops k (stageOf (befores ops) es k ops.toList 0) ts s st G ∧ Rest P ops es k G T2 gs' rest := by
  cases rest with
  | nil =>
    obtain ⟨G, h1, h2⟩ := h
    exact ⟨G, new, [], [], h1, by simp, h2, rfl, rfl⟩
  | cons e r =>
    obtain ⟨st, G, x, o, F, new', gs', h1, h2, h3, h4, h5, h6, _, h8, h9⟩ := h
    exact ⟨G, st, x :: new', gs', h1, h2, h3, x, o, F, new', rfl, h4, h5, h6, h8, h9⟩

theorem can_some {es : List Nat} : ∀ {rest : List Nat} {k : Nat} {ts : List AV} {s : AS} {new : List TE} {gs : List AS}, Can P ops (befores ops) es rest k ts s new gs → ∀ y ∈ new, ∃ o, ops[y.i]? = some o
  | [], k, ts, s, new, gs, h, y, hy => by
    obtain ⟨G, _, h⟩ := h
    obtain ⟨o, ho, _⟩ := (h.each y hy).2.2.2
    exact ⟨o, ho⟩
  | e :: rest, k, ts, s, new, gs, h, y, hy => by
    obtain ⟨st, G, x, o, F, new', gs', _, rfl, h1, h2, ho, h5, h4, _, h3⟩ := h
    rcases List.mem_append.1 hy with hy | hy
    · obtain ⟨o, ho, _⟩ := (h1.each y hy).2.2.2
      exact ⟨o, ho⟩
    · rcases List.mem_cons.1 hy with rfl | hy
      · exact ⟨o, by rw [h2]; exact ho⟩
      · exact can_some h3 y hy

theorem mk_not_E {x : TE} (h : Mk ops x) {o : Oper} (ho : ops[x.i]? = some o) : isE o = false := by
  obtain ⟨o', h1, _, h3⟩ := h
  rw [ho] at h1
  simp only [Option.some.injEq] at h1
  subst h1
  simp [isE, h3]

/-- Whoever makes a block in the rest of the run does so in a later stage. -/
theorem rest_later {es : List Nat} {j : Nat} {G : AS} {T2 : List TE} {gs : List AS} {rest : List Nat} (hE : ∀ e ∈ rest, ∀ o, ops[e]? = some o → isE o = true) (h : Rest P ops es j G T2 gs rest) :
    ∀ y ∈ T2, Mk ops y → j + 1 ≤ y.k := by
  cases rest with
  | nil => obtain ⟨rfl, _⟩ := h; simp
  | cons e r =>
    obtain ⟨x, o, F, new', rfl, h1, h2, h3, h4, h5⟩ := h
    intro y hy hm
    rcases List.mem_cons.1 hy with rfl | hy
    · have := mk_not_E hm (by rw [h1]; exact h2)
      rw [hE e (by simp) o h2] at this
      cases this
    · exact can_le h5 y hy

theorem sep_ne : ∀ {st : List TE}, Sep ops st → ∀ {x y : TE}, x ∈ st → y ∈ st → Mk ops x → Mk ops y → x.i ≠ y.i → x.nx ≠ y.nx
  | [], _, _, _, h, _, _, _, _ => by simp at h
  | z :: st, hs, x, y, hx, hy, mx, my, hne => by
    rcases List.mem_cons.1 hx with hx | hx <;> rcases List.mem_cons.1 hy with hy | hy
    · exact absurd (by rw [hx, hy]) hne
    · have := hs.1 (hx ▸ mx) y hy; rw [hx]; omega
    · have := hs.1 (hy ▸ my) x hx; rw [hy]; omega
    · exact sep_ne hs.2 hx hy mx my hne

/-- A block that is made, but not yet by the model. -/
def Unm (P : Program) (ops : Array Oper) (s0 : AS) (ρ : Ren) (G : AS) (x : TE) : Prop :=
  ρ x.nx = none ∧ s0.nx ≤ x.nx ∧ x.nx < G.nx ∧ ∃ o ob, ops[x.i]? = some o ∧ allocA P x.ts x.nx o.op = some (x.v, ob) ∧ G.get x.nx = some ob ∧ ob.rw = true

structure Inv (P : Program) (B : Base) (ops : Array Oper) (T : List TE) (ts0 : List AV) (Gs : List AS) (ρ0 : Ren) (s0 : AS) (w0 : World) (D : Nat → Bool) (a : Act) (w : World)
    (j : Nat) (G : AS) (es1 es2 : List Nat) (T1 T2 : List TE) (gs' : List AS) (ρ : Ren) : Prop where
  post : Post P B ρ0 s0 w0 ρ G w
  tr : TR ρ (tv ops T ts0 D) a
  es : effsOf ops.toList 0 = es1 ++ es2
  len : es1.length = j
  on : ∀ e ∈ es1, D e = true
  off : ∀ e ∈ es2, D e = false
  split : T = T1 ++ T2
  low : ∀ y ∈ T1, y.k ≤ j
  rest : Rest P ops (effsOf ops.toList 0) j G T2 gs' es2
  at_ : Gs[j]? = some G
  left : Gs.drop (j + 1) = gs'
  unm : ∀ x ∈ T, x.k ≤ j → Mk ops x → D x.i = false → Unm P ops s0 ρ G x
  dist : ∀ x ∈ T, ∀ y ∈ T, x.k ≤ j → y.k ≤ j → Mk ops x → Mk ops y → D x.i = false → D y.i = false → x.i ≠ y.i → x.nx ≠ y.nx
  shp : ∀ i Gi, i ≤ j → Gs[i]? = some Gi → Shape Gi G

theorem effs_E : ∀ e ∈ effsOf ops.toList 0, ∀ o, ops[e]? = some o → isE o = true := by
  intro e he o ho
  obtain ⟨_, o', h1, h2⟩ := effsOf_mem.1 he
  have : ops[e]? = some o' := by simpa using h1
  rw [ho] at this
  simp only [Option.some.injEq] at this
  rw [this]
  exact h2

variable {B : Base} {T : List TE} {ts0 : List AV} {Gs : List AS} {ρ0 : Ren} {s0 : AS} {w0 : World}

/-- What a stage that has just been gone through says of the blocks it made. -/
theorem stage_unm {k : Nat} {l : List Nat} {ts : List AV} {s G : AS} {st : List TE} {ρ : Ren} (h : StageOk P ops k l ts s st G) (hf : ∀ b, s.nx ≤ b → ρ b = none) (hs : s0.nx ≤ s.nx) :
    ∀ x ∈ st, Mk ops x → Unm P ops s0 ρ G x := by
  intro x hx hm
  obtain ⟨_, h2, h3, o, ho, _, _, h4⟩ := h.each x hx
  obtain ⟨o', ho', hw, hk⟩ := hm
  rw [ho] at ho'
  simp only [Option.some.injEq] at ho'
  subst ho'
  refine ⟨hf _ h2, Nat.le_trans hs h2, h3 ⟨o, ho, hw, hk⟩, o, ?_⟩
  rcases h4 with ⟨e, _⟩ | ⟨_, ⟨e, _⟩ | ⟨e, _⟩ | ⟨_, ob, h5, h6, h7⟩⟩
  · rw [hw] at e; cases e
  · rw [hk] at e; cases e
  · rw [hk] at e; cases e
  · exact ⟨ob, ho, h5, h6, h7⟩

theorem inv_start (R : Rel P B ρ0 s0 w0) {a : Act} (ht : TR ρ0 ts0 a) (hcan : Can P ops (befores ops) (effsOf ops.toList 0) (effsOf ops.toList 0) 0 ts0 s0 T Gs) :
    ∃ G T1 T2 gs', Inv P B ops T ts0 Gs ρ0 s0 w0 (fun _ => false) a w0.drew 0 G [] (effsOf ops.toList 0) T1 T2 gs' ρ0 := by
  obtain ⟨G, st, T2, gs', h1, h2, h3, h4⟩ := can_open hcan
  have htv : tv ops T ts0 (fun _ => false) = ts0 := by
    have hfil : T.filter (fun _ => false) = [] := by
      rw [List.filter_eq_nil_iff]
      simp
    simp only [tv, hfil]
    rfl
  have hlow : ∀ x ∈ T, x.k ≤ 0 → Mk ops x → x ∈ st := by
    intro x hx hk hm
    rw [h2] at hx
    rcases List.mem_append.1 hx with hx | hx
    · exact hx
    · have := rest_later effs_E h4 x hx hm
      omega
  have hu := stage_unm (s0 := s0) h3 R.fresh (Nat.le_refl _)
  refine ⟨G, st, T2, gs', ?_, by rw [htv]; exact ht, rfl, rfl, by simp, by simp, h2, fun y hy => Nat.le_of_eq (h3.each y hy).1, h4, by rw [h1]; rfl, by rw [h1]; rfl,
    fun x hx hk hm _ => hu x (hlow x hx hk hm) hm, fun x hx y hy kx ky mx my _ _ hne => sep_ne h3.sep (hlow x hx kx mx) (hlow y hy ky my) mx my hne,
    fun i Gi hi hGi => by
      obtain rfl : i = 0 := Nat.le_zero.1 hi
      rw [h1] at hGi
      simp only [List.getElem?_cons_zero, Option.some.injEq] at hGi
      subst hGi
      exact .refl _⟩
  exact ⟨R.drew.grow h3.grow, fun _ _ => rfl, fun b hb _ => h3.grow.get hb, h3.grow.shape, Nat.le_refl _⟩

variable {D : Nat → Bool} {a : Act} {w : World} {j : Nat} {G : AS} {es1 es2 : List Nat} {T1 T2 : List TE} {gs' : List AS} {ρ : Ren}

/-- One that turns something is done. -/
theorem inv_eff (tr : Tr ops T ts0) (hc : Closed ops D) (I : Inv P B ops T ts0 Gs ρ0 s0 w0 D a w j G es1 es2 T1 T2 gs' ρ) {x : TE} {o : Oper} (hx : x ∈ T) (ho : ops[x.i]? = some o) (hn : D x.i = false)
    (hb : ∀ k, ((befores ops).getD x.i 0).testBit k = true → D k = true) (hE : isE o = true) :
    ∃ F es2', SV P ops o (tv ops T ts0 D) G x.v F ∧ es2 = x.i :: es2' ∧
      ∀ {ρ' : Ren} {a' : Act} {w' : World}, TR ρ' (putA (tv ops T ts0 D) o.dst x.v) a' → Post P B ρ G w ρ' F w' →
        ∃ G' T1' T2' gs'', Inv P B ops T ts0 Gs ρ0 s0 w0 (fun i => D i || i == x.i) a' w' (j + 1) G' (es1 ++ [x.i]) es2' T1' T2' gs'' ρ' := by
  obtain ⟨hag, hput⟩ := tr_facts tr hc hx ho hn hb
  have hmem : x.i ∈ effsOf ops.toList 0 := effsOf_mem.2 ⟨Nat.zero_le _, o, by simpa using ho, hE⟩
  have hmem2 : x.i ∈ es2 := by
    rw [I.es] at hmem
    rcases List.mem_append.1 hmem with h | h
    · rw [I.on _ h] at hn; cases hn
    · exact h
  -- it is the next one
  have hhead : ∃ es2', es2 = x.i :: es2' := by
    cases hes : es2 with
    | nil => rw [hes] at hmem2; simp at hmem2
    | cons e r =>
      rw [hes] at hmem2
      rcases List.mem_cons.1 hmem2 with h | h
      · exact ⟨r, by rw [h]⟩
      · have hch := chainOk_pair tr.st.chain (l1 := es1) (x := e) (l2 := r) (by rw [I.es, hes]) x.i h
        have := hb e hch
        rw [I.off e (by rw [hes]; simp)] at this
        cases this
  obtain ⟨es2', hes2⟩ := hhead
  have hrest := I.rest
  rw [hes2] at hrest
  obtain ⟨y, oy, F, new', hT2, hyi, hoy, hyk, hstep, hcan⟩ := hrest
  rw [ho] at hoy
  simp only [Option.some.injEq] at hoy
  subst hoy
  have hxy : x = y := by
    have hy : y ∈ T := by rw [I.split, hT2]; simp
    obtain ⟨t1, t2, he⟩ := List.append_of_mem hx
    rw [he] at hy
    rcases List.mem_append.1 hy with h | h
    · obtain ⟨a1, a2, h'⟩ := List.append_of_mem h
      have := tr_sep tr (t1 := a1) (x := y) (t2 := a2 ++ x :: t2) (by rw [he, h']; simp) x (by simp)
      exact absurd hyi this.2
    · rcases List.mem_cons.1 h with h | h
      · exact h.symm
      · have := tr_sep tr he y h
        exact absurd hyi.symm this.2
  subst hxy
  refine ⟨F, es2', (by obtain ⟨rec, hrec, hstep⟩ := hstep; exact ⟨rec, hrec, by rw [stepV_congr hag]; exact hstep⟩), hes2, ?_⟩
  intro ρ' a' w' ht' hp'
  obtain ⟨G', st, T2', gs'', g1, g2, g3, g4⟩ := can_open hcan
  have hEs : ∀ e ∈ es2', ∀ o, ops[e]? = some o → isE o = true := fun e he => effs_E e (by rw [I.es, hes2]; simp [he])
  have hp0 := I.post.trans hp'
  have hf' := hp'.rel.fresh
  have hnx : G.nx ≤ F.nx := hp'.shape.nx
  have hnx' : F.nx ≤ G'.nx := g3.grow.nx
  have hT : T = (T1 ++ x :: st) ++ T2' := by rw [I.split, hT2, g2]; simp
  have hu := stage_unm (s0 := s0) g3 hf' hp0.shape.nx
  -- where a block that is made up to now comes from
  have where_ : ∀ z ∈ T, z.k ≤ j + 1 → Mk ops z → z.k ≤ j ∨ z ∈ st := by
    intro z hz hk hm
    by_cases hkj : z.k ≤ j
    · exact .inl hkj
    · rw [hT] at hz
      rcases List.mem_append.1 hz with hz | hz
      · rcases List.mem_append.1 hz with hz | hz
        · exact .inl (I.low z hz)
        · rcases List.mem_cons.1 hz with rfl | hz
          · have := mk_not_E hm ho
            rw [hE] at this
            cases this
          · exact .inr hz
      · have := rest_later hEs g4 z hz hm
        omega
  have hD : ∀ {i : Nat}, (D i || i == x.i) = false → D i = false := fun h => by simp at h; exact h.1
  refine ⟨G', T1 ++ x :: st, T2', gs'', ?_⟩
  refine ⟨⟨hp0.rel.grow g3.grow, hp0.ext, fun b hb hn => ?_, hp0.shape.trans g3.grow.shape, hp0.size⟩, by rw [hput]; exact ht', by rw [I.es, hes2]; simp, by simp [I.len], ?_, ?_, hT, ?_, g4, ?_, ?_, ?_, ?_, ?_⟩
  · rw [g3.grow.get (Nat.lt_of_lt_of_le hb hp0.shape.nx)]
    exact hp0.unt b hb hn
  · intro e he
    rcases List.mem_append.1 he with he | he
    · simp [I.on e he]
    · simp at he; simp [he]
  · intro e he
    have h1 := I.off e (by rw [hes2]; simp [he])
    have hch := chainOk_pair tr.st.chain (l1 := es1) (x := x.i) (l2 := es2') (by rw [I.es, hes2]) e he
    have hne : e ≠ x.i := by
      rintro rfl
      have := hb _ hch
      rw [hn] at this
      cases this
    simp [h1, hne]
  · intro y hy
    rcases List.mem_append.1 hy with hy | hy
    · have := I.low y hy; omega
    · rcases List.mem_cons.1 hy with rfl | hy
      · omega
      · exact Nat.le_of_eq (g3.each y hy).1
  · have h1 : Gs[j + 1]? = (Gs.drop (j + 1))[0]? := by rw [List.getElem?_drop]
    rw [h1, I.left, g1]
    rfl
  · have h1 : Gs.drop (j + 1 + 1) = (Gs.drop (j + 1)).drop 1 := by rw [List.drop_drop]
    rw [h1, I.left, g1]
    rfl
  · intro z hz hk hm hDz
    rcases where_ z hz hk hm with h | h
    · obtain ⟨u1, u2, u3, oz, ob, u4, u5, u6, u7⟩ := I.unm z hz h hm (hD hDz)
      refine ⟨by rw [hp'.ext _ u3]; exact u1, u2, by omega, oz, ob, u4, u5, ?_, u7⟩
      rw [g3.grow.get (by omega), hp'.unt _ u3 u1]
      exact u6
    · exact hu z h hm
  · intro z hz y hy kz ky mz my dz dy hne
    rcases where_ z hz kz mz with h | h <;> rcases where_ y hy ky my with h' | h'
    · exact I.dist z hz y hy h h' mz my (hD dz) (hD dy) hne
    · have := (I.unm z hz h mz (hD dz)).2.2.1
      have := (g3.each y h').2.1
      omega
    · have := (I.unm y hy h' my (hD dy)).2.2.1
      have := (g3.each z h).2.1
      omega
    · exact sep_ne g3.sep h h' mz my hne
  · intro i Gi hi hGi
    by_cases hij : i ≤ j
    · exact ((I.shp i Gi hij hGi).trans hp'.shape).trans g3.grow.shape
    · obtain rfl : i = j + 1 := by omega
      have h1 : Gs[j + 1]? = (Gs.drop (j + 1))[0]? := by rw [List.getElem?_drop]
      rw [h1, I.left, g1] at hGi
      simp only [List.getElem?_cons_zero, Option.some.injEq] at hGi
      subst hGi
      exact .refl _

/-- One that turns nothing is done: the rest stays. -/
theorem inv_stay (tr : Tr ops T ts0) (hc : Closed ops D) (I : Inv P B ops T ts0 Gs ρ0 s0 w0 D a w j G es1 es2 T1 T2 gs' ρ) {x : TE} {o : Oper} (hx : x ∈ T) (ho : ops[x.i]? = some o) (hn : D x.i = false)
    (hb : ∀ k, ((befores ops).getD x.i 0).testBit k = true → D k = true) (hE : isE o = false) {ρ' : Ren} {a' : Act} {w' : World} (hp : Post P B ρ0 s0 w0 ρ' G w') (ht : TR ρ' (putA (tv ops T ts0 D) o.dst x.v) a')
    (hr : ∀ z ∈ T, z.k ≤ j → Mk ops z → D z.i = false → z.i ≠ x.i → ρ' z.nx = none) :
    Inv P B ops T ts0 Gs ρ0 s0 w0 (fun i => D i || i == x.i) a' w' j G es1 es2 T1 T2 gs' ρ' := by
  obtain ⟨_, hput⟩ := tr_facts tr hc hx ho hn hb
  have hD : ∀ {i : Nat}, (D i || i == x.i) = false → D i = false ∧ i ≠ x.i := fun h => by simpa using h
  refine ⟨hp, by rw [hput]; exact ht, I.es, I.len, fun e he => by simp [I.on e he], fun e he => ?_, I.split, I.low, I.rest, I.at_, I.left, ?_, ?_, I.shp⟩
  · have hne : e ≠ x.i := by
      rintro rfl
      rw [effs_E x.i (by rw [I.es]; simp [he]) o ho] at hE
      cases hE
    simp [I.off e he, hne]
  · intro z hz hk hm hDz
    obtain ⟨h1, h2⟩ := hD hDz
    obtain ⟨_, u2, u3, u4⟩ := I.unm z hz hk hm h1
    exact ⟨hr z hz hk hm h1 h2, u2, u3, u4⟩
  · intro z hz y hy kz ky mz my dz dy hne
    exact I.dist z hz y hy kz ky mz my (hD dz).1 (hD dy).1 hne
end
end Go.Mini

namespace Go.Mini
open Go Go.RowKit

section
variable {P : Program} {s s' : AS}
theorem plains_iff : ∀ {l : List AV}, plains l = true ↔ ∀ x ∈ l, x.plain = true
  | [] => by simp [plains]
  | a :: l => by simp [plains, plains_iff (l := l)]
theorem takeN_sub : ∀ {n : Nat} {l r : List AV}, takeN n l = some r → ∀ x ∈ r, x ∈ l
  | 0, l, r, h, x, hx => by
    simp only [takeN, Option.some.injEq] at h
    subst h
    simp at hx
  | n + 1, [], r, h, _, _ => by simp [takeN] at h
  | n + 1, y :: t, r, h, x, hx => by
    simp only [takeN] at h
    split at h
    · rename_i l hl
      simp only [Option.some.injEq] at h
      subst h
      rcases List.mem_cons.1 hx with rfl | hx
      · simp
      · exact List.mem_cons_of_mem _ (takeN_sub hl x hx)
    · simp at h
theorem partA_plain {t : TypeId} {cs : List AV} {off : Nat} {a : AV} (hp : plains cs = true) (h : partA P t cs off = some a) : a.plain = true := by
  rw [plains_iff] at hp
  unfold partA at h
  split at h
  · split at h
    · split at h
      · rename_i l hl
        simp only [Option.some.injEq] at h
        subst h
        simp only [AV.plain, plains_iff]
        exact fun x hx => hp x (List.mem_of_mem_drop (takeN_sub hl x hx))
      · simp at h
    · simp at h
  · exact hp _ (List.mem_of_getElem? h)
  · simp at h

theorem eqPtr_plain {e : TypeId} {x y : AV} (h : x.plain = true ∨ y.plain = true) : eqPtr P s e x y = eqPtr P s' e x y := by
  unfold eqPtr
  split <;> try rfl
  simp [AV.plain] at h

theorem eqFields_congr {f g : TypeId → AV → AV → Option Bool} {xs ys : List AV} : ∀ {fs : List Field}, (∀ t a b, (∃ off, partA P t xs off = some a) → (∃ off, partA P t ys off = some b) → f t a b = g t a b) → eqFields P f xs ys fs = eqFields P g xs ys fs
  | [], _ => rfl
  | fd :: fs, h => by
    simp only [eqFields]
    cases ha : partA P fd.type xs fd.offset with
    | none => rfl
    | some a =>
      cases hb : partA P fd.type ys fd.offset with
      | none => rfl
      | some b => simp only [h _ _ _ ⟨_, ha⟩ ⟨_, hb⟩, eqFields_congr h]
theorem eqElems_congr {f g : TypeId → AV → AV → Option Bool} {elem n : Nat} {xs ys : List AV} (h : ∀ t a b, (∃ off, partA P t xs off = some a) → (∃ off, partA P t ys off = some b) → f t a b = g t a b) :
    ∀ {k i : Nat}, eqElems P f elem n xs ys k i = eqElems P g elem n xs ys k i
  | 0, i => rfl
  | k + 1, i => by
    simp only [eqElems]
    cases ha : partA P elem xs (i * n) with
    | none => rfl
    | some a =>
      cases hb : partA P elem ys (i * n) with
      | none => rfl
      | some b => simp only [h _ _ _ ⟨_, ha⟩ ⟨_, hb⟩, eqElems_congr h (k := k)]

theorem eqA_plain : ∀ {d : Nat} {t : TypeId} {x y : AV}, x.plain = true ∨ y.plain = true → eqA P s d t x y = eqA P s' d t x y
  | 0, _, _, _, _ => rfl
  | d + 1, t, x, y, h => by
    have parts : ∀ {xs ys : List AV}, aggOf x = some xs → aggOf y = some ys → ∀ t a b, (∃ off, partA P t xs off = some a) → (∃ off, partA P t ys off = some b) → eqA P s d t a b = eqA P s' d t a b := by
      rintro xs ys hx hy t a b ⟨o1, h1⟩ ⟨o2, h2⟩
      refine eqA_plain ?_
      unfold aggOf at hx hy
      split at hx
      · split at hy
        · simp only [Option.some.injEq] at hx hy
          subst hx hy
          simp only [AV.plain] at h
          rcases h with h | h
          · exact .inl (partA_plain h h1)
          · exact .inr (partA_plain h h2)
        · simp at hy
      · simp at hx
    simp only [eqA]
    split <;> try rfl
    · exact eqPtr_plain h
    · cases hx : aggOf x with
      | none => rfl
      | some xs =>
        cases hy : aggOf y with
        | none => rfl
        | some ys => simp only [eqFields_congr (parts hx hy)]
    · cases hx : aggOf x with
      | none => rfl
      | some xs =>
        cases hy : aggOf y with
        | none => rfl
        | some ys => simp only [eqElems_congr (parts hx hy)]

theorem eqlA_plain {t : TypeId} {x y : AV} (h : x.plain = true ∨ y.plain = true) : eqlA P s t x y = eqlA P s' t x y := by
  unfold eqlA
  rw [eqA_plain h]

theorem eqA_ptr {d : Nat} {t : TypeId} {b o c p : Nat} (h1 : s.get b = s'.get b) (h2 : s.get c = s'.get c) : eqA P s d t (.ptr b o) (.ptr c p) = eqA P s' d t (.ptr b o) (.ptr c p) := by
  cases d with
  | zero => rfl
  | succ d =>
    simp only [eqA]
    split <;> try rfl
    have r1 : rwAt s b = rwAt s' b := by unfold rwAt; rw [h1]
    have r2 : rwAt s c = rwAt s' c := by unfold rwAt; rw [h2]
    simp only [eqPtr, r1, r2]

theorem findA_plain {t : TypeId} {k : AV} (h : k.plain = true) : ∀ {es : List (AV × AV)} {i : Nat}, findA P s t k es i = findA P s' t k es i
  | [], _ => rfl
  | e :: es, i => by
    simp only [findA, eqA_plain (s := s) (s' := s') (.inl h), findA_plain h (es := es)]

theorem load_touch {t : TypeId} {b o : Nat} (h : s.get b = s'.get b) : loadA P s t (.ptr b o) = loadA P s' t (.ptr b o) := by
  simp only [loadA, readA, h]
theorem lookup_touch {t : TypeId} {b : Nat} {k : AV} {ok : Bool} (hk : k.plain = true) (h : s.get b = s'.get b) : lookupA P s t (.map b) k ok = lookupA P s' t (.map b) k ok := by
  simp only [lookupA, mapOf, h, findA_plain (s := s) (s' := s') hk]
theorem lookup_nil {t : TypeId} {k : AV} {ok : Bool} : lookupA P s t .nilMap k ok = lookupA P s' t .nilMap k ok := by simp only [lookupA]
theorem len_touch {t : TypeId} {x : AV} (h : ∀ b, x = .map b → s.get b = s'.get b) : lenA P s t x = lenA P s' t x := by
  unfold lenA
  split <;> try rfl
  rename_i b hu
  simp only [mapOf, h b rfl]

theorem eql_touch {t : TypeId} {a b : AV} {l : List Nat} (hl : (if a.plain || b.plain then some [] else match a, b with
      | .ptr b _, .ptr c _ => some [b, c]
      | _, _ => none) = some l) (h : ∀ b ∈ l, s.get b = s'.get b) : eqlA P s t a b = eqlA P s' t a b := by
  split at hl
  · rename_i hp
    exact eqlA_plain (by simpa using hp)
  · split at hl
    · simp only [Option.some.injEq] at hl
      subst hl
      unfold eqlA
      rw [eqA_ptr (h _ (by simp)) (h _ (by simp))]
    · simp at hl

theorem eqlO_touch {t : TypeId} {x y : Operand} {a b : AV} (h : eqlA P s t a b = eqlA P s' t a b) : eqlO P s t x y a b = eqlO P s' t x y a b := by
  unfold eqlO
  split
  · rename_i hc
    have : a.plain = true := by
      simp only [Bool.and_eq_true] at hc
      cases a <;> first | rfl | simp [nilBoth] at hc
    exact eqA_plain (.inl this)
  · exact h

theorem valA_touch {ts : List AV} {op : Op} {l : List Nat} (hk : kindOf op = .R) (hl : touchA P ts op = some l) (h : ∀ b ∈ l, s.get b = s'.get b) : valA P ts s op = valA P ts s' op := by
  cases op with
  | binOp op t x y z =>
    simp only [touchA] at hl
    cases ha : evA P ts x with
    | none => simp only [valA, ha]
    | some a =>
      cases hb : evA P ts y with
      | none => simp only [valA, ha, hb]
      | some b =>
        simp only [ha, hb] at hl
        have he := eql_touch (P := P) (s := s) (s' := s') (t := t) hl h
        simp only [valA, ha, hb]
        have he := eqlO_touch (x := x) (y := y) he
        cases op <;> simp only <;> split <;> simp only [he]
  | load t a =>
    simp only [touchA] at hl
    split at hl
    · rename_i b o hb
      simp only [Option.some.injEq] at hl
      subst hl
      simp only [valA, hb, load_touch (h _ (List.mem_singleton.2 rfl))]
    · simp at hl
  | lookup t m k ok =>
    simp only [touchA] at hl
    split at hl
    · rename_i b k' hm hk'
      split at hl
      · rename_i hp
        simp only [Option.some.injEq] at hl
        subst hl
        simp only [valA, hm, hk', lookup_touch hp (h _ (List.mem_singleton.2 rfl))]
      · simp at hl
    · rename_i k' hm hk'
      simp only [valA, hm, hk', lookup_nil (s := s) (s' := s')]
    · simp at hl
  | call c =>
    simp only [kindOf] at hk
    split at hk <;> try cases hk
    rename_i hc
    simp only [touchA] at hl
    simp only [valA, hc]
    split at hl
    · rename_i x hx
      rw [hx]
      cases hv : evA P ts x with
      | none =>
        cases ht : c.argTypes.toList with
        | nil => rfl
        | cons t r => simp only [hv]
      | some a =>
        cases ht : c.argTypes.toList with
        | nil => rfl
        | cons t r =>
          simp only [hv]
          rw [hv] at hl
          refine len_touch fun b hb => ?_
          subst hb
          simp only [Option.some.injEq] at hl
          subst hl
          exact h b (by simp)
    · simp at hl
  | _ => simp [kindOf] at hk

theorem notIn_iff {b : Nat} : ∀ {l : List Nat}, notIn b l = true → b ∉ l
  | [], _ => by simp
  | x :: l, h => by
    simp only [notIn, Bool.and_eq_true, Bool.not_eq_true'] at h
    simp only [List.mem_cons, not_or]
    refine ⟨fun e => ?_, notIn_iff h.2⟩
    have := h.1
    rw [e, Nat.beq_refl] at this
    cases this

/-- What stayed reads as it read. -/
theorem stayed_read {x : TE} {op : Op} {sr G : AS} {v : AV} (hk : kindOf op = .R) (hs : stayed P x G op = true) (hv : valA P x.ts sr op = some v) (hnx : sr.nx = x.nx) (hwr : sr.h.wr = x.wr) (hsh : Shape sr G) : valA P x.ts G op = some v := by
  unfold stayed at hs
  split at hs
  case h_2 => cases hs
  rename_i l hl
  rw [List.all_eq_true] at hs
  obtain ⟨lg, h1, h2⟩ := hsh.log
  rw [← hv]
  refine (valA_touch hk hl fun b hb => ?_).symm
  have := hs b hb
  simp only [Bool.and_eq_true] at this
  refine (h2 b (by rw [hnx]; simpa using this.1) ?_).symm
  have hn := notIn_iff this.2
  rw [h1, ← hwr] at hn
  simpa using hn
end
end Go.Mini

namespace Go.Mini
open Go Go.RowKit

def cnt (n : Nat) (listed : Array Bool) : Nat := ((List.range n).filter fun i => !listed.getD i false).length
theorem filter_less {p q : Nat → Bool} : ∀ {l : List Nat} {i : Nat}, (∀ j, q j = true → p j = true) → i ∈ l → p i = true → q i = false → (l.filter q).length + 1 ≤ (l.filter p).length
  | [], _, _, h, _, _ => by simp at h
  | x :: l, i, hpq, hi, h1, h2 => by
    have mono : ∀ l : List Nat, (l.filter q).length ≤ (l.filter p).length := by
      intro l
      induction l with
      | nil => simp
      | cons y l ih =>
        cases hq : q y with
        | true => rw [List.filter_cons_of_pos hq, List.filter_cons_of_pos (hpq y hq)]; simp; exact ih
        | false =>
          rw [List.filter_cons_of_neg (by simp [hq])]
          cases hp : p y with
          | true => rw [List.filter_cons_of_pos hp]; simp; omega
          | false => rw [List.filter_cons_of_neg (by simp [hp])]; exact ih
    rcases List.mem_cons.1 hi with rfl | hi
    · rw [List.filter_cons_of_neg (by simp [h2]), List.filter_cons_of_pos h1]
      have := mono l
      simp
      exact this
    · have ih := filter_less (l := l) hpq hi h1 h2
      cases hq : q x with
      | true => rw [List.filter_cons_of_pos hq, List.filter_cons_of_pos (hpq x hq)]; simp; omega
      | false =>
        rw [List.filter_cons_of_neg (by simp [hq])]
        cases hp : p x with
        | true => rw [List.filter_cons_of_pos hp]; simp; omega
        | false => rw [List.filter_cons_of_neg (by simp [hp])]; exact ih

section
variable {P : Program} {ops : Array Oper}

theorem set_get {listed : Array Bool} {i : Nat} (hi : i < listed.size) (k : Nat) : (listed.setIfInBounds i true).getD k false = (listed.getD k false || k == i) := by
  by_cases h : i = k
  · subst h
    simp [Array.getD_eq_getD_getElem?, hi]
  · have h' : (k == i) = false := by simpa using Ne.symm h
    rw [getD_set_ne _ h, h', Bool.or_false]

variable {B : Base} {T : List TE} {ts0 : List AV} {Gs : List AS} {ρ0 : Ren} {s0 : AS} {w0 : World} {sfin : AS} {Q : Exit → Act → World → Prop}

/-- All is done. -/
theorem inv_end (hsome : ∀ x ∈ T, ∃ o, ops[x.i]? = some o) (hlast : Gs.getLast? = some sfin) {D : Nat → Bool} {a : Act} {w : World} {j : Nat} {G : AS} {es1 es2 : List Nat} {T1 T2 : List TE} {gs' : List AS} {ρ : Ren}
    (I : Inv P B ops T ts0 Gs ρ0 s0 w0 D a w j G es1 es2 T1 T2 gs' ρ) (hall : ∀ i, i < ops.size → D i = true) : TR ρ (tsOf ops T ts0) a ∧ Post P B ρ0 s0 w0 ρ sfin w := by
  have hes2 : es2 = [] := by
    cases hes : es2 with
    | nil => rfl
    | cons e r =>
      have h1 := I.off e (by rw [hes]; simp)
      have hm : e ∈ effsOf ops.toList 0 := by rw [I.es, hes]; simp
      obtain ⟨_, o, ho, _⟩ := effsOf_mem.1 hm
      have hlt : e < ops.size := by
        have : ops[e]? = some o := by simpa using ho
        exact (Array.getElem?_eq_some_iff.1 this).1
      rw [hall e hlt] at h1
      cases h1
  have hrest := I.rest
  rw [hes2] at hrest
  obtain ⟨_, hgs⟩ := hrest
  have hleft := I.left
  rw [hgs] at hleft
  have hlen : Gs.length ≤ j + 1 := by simpa using hleft
  have hjl := (List.getElem?_eq_some_iff.1 I.at_).1
  have hG : G = sfin := by
    have h1 := I.at_
    rw [List.getLast?_eq_getElem?] at hlast
    rw [show Gs.length - 1 = j from by omega, h1] at hlast
    simpa using hlast
  have htv : tv ops T ts0 D = tsOf ops T ts0 := by
    unfold tv
    rw [List.filter_eq_self.2]
    intro x hx
    obtain ⟨o, ho⟩ := hsome x hx
    exact hall _ (Array.getElem?_eq_some_iff.1 ho).1
  exact ⟨htv ▸ I.tr, hG ▸ I.post⟩

theorem wpAny_inv (tr : Tr ops T ts0) (hsome : ∀ x ∈ T, ∃ o, ops[x.i]? = some o) (hlast : Gs.getLast? = some sfin)
    (hne : ∀ y ∈ T, ∀ o, ops[y.i]? = some o → isE o = false → lastE (befores ops) (effsOf ops.toList 0) y.i = y.k ∧ 0 ≤ y.k ∧ ∃ G, Gs[y.k - 0]? = some G ∧ NE P ops y G)
    (hread : ∀ (j : Nat) (G : AS), Gs[j]? = some G → ∀ x ∈ T, readOk P ops (befores ops) (effsOf ops.toList 0) G j x = true)
    (hQ : ∀ ρ' a' w', TR ρ' (tsOf ops T ts0) a' → Post P B ρ0 s0 w0 ρ' sfin w' → Q .normal a' w') :
    ∀ (fuel : Nat) (listed : Array Bool) (a : Act) (w : World) (j : Nat) (G : AS) (es1 es2 : List Nat) (T1 T2 : List TE) (gs' : List AS) (ρ : Ren), listed.size = ops.size → cnt ops.size listed ≤ fuel →
      Closed ops (fun k => listed.getD k false) → Inv P B ops T ts0 Gs ρ0 s0 w0 (fun k => listed.getD k false) a w j G es1 es2 T1 T2 gs' ρ → wpAny P .any ops Q fuel listed a w := by
  -- nothing may come up: all is done
  have done_ : ∀ (listed : Array Bool) (a : Act) (w : World) (j : Nat) (G : AS) (es1 es2 : List Nat) (T1 T2 : List TE) (gs' : List AS) (ρ : Ren), listed.size = ops.size →
      Inv P B ops T ts0 Gs ρ0 s0 w0 (fun k => listed.getD k false) a w j G es1 es2 T1 T2 gs' ρ → Region.ready .any ops listed = [] → Q .normal a w := by
    intro listed a w j G es1 es2 T1 T2 gs' ρ hsz I hr
    have hall : ∀ i, i < ops.size → listed.getD i false = true := by
      intro i
      induction i using Nat.strongRecOn with
      | _ i ih =>
        intro hi
        cases h : listed.getD i false with
        | true => rfl
        | false =>
          exfalso
          have : i ∈ Region.ready .any ops listed := by
            refine mem_ready.2 ⟨?_, ops[i], Array.getElem?_eq_getElem hi, fun e he hb => ?_⟩
            · have hlt : i < listed.size := by omega
              simp only [Array.getD_eq_getD_getElem?, Array.getElem?_eq_getElem hlt, Option.getD_some] at h ⊢
              exact h
            · have hlt := tr.st.edge i _ (Array.getElem?_eq_getElem hi) e he hb
              exact ih e.on hlt (by omega)
          rw [hr] at this
          simp at this
    obtain ⟨h1, h2⟩ := inv_end hsome hlast I hall
    exact hQ ρ a w h1 h2
  intro fuel
  induction fuel with
  | zero =>
    intro listed a w j G es1 es2 T1 T2 gs' ρ hsz hcnt hc I
    have hr : Region.ready .any ops listed = [] := by
      cases h : Region.ready .any ops listed with
      | nil => rfl
      | cons i l =>
        exfalso
        have hi : i ∈ Region.ready .any ops listed := by rw [h]; simp
        obtain ⟨_, o, ho, _⟩ := mem_ready.1 hi
        have hlt := (Array.getElem?_eq_some_iff.1 ho).1
        have : i ∈ (List.range ops.size).filter fun i => !listed.getD i false := List.mem_filter.2 ⟨List.mem_range.2 hlt, by rw [ready_not hi]; rfl⟩
        have h0 : ((List.range ops.size).filter fun i => !listed.getD i false) = [] := List.eq_nil_of_length_eq_zero (by unfold cnt at hcnt; omega)
        rw [h0] at this
        simp at this
    exact ⟨hr, done_ listed a w j G es1 es2 T1 T2 gs' ρ hsz I hr⟩
  | succ fuel ih =>
    intro listed a w j G es1 es2 T1 T2 gs' ρ hsz hcnt hc I
    refine ⟨done_ listed a w j G es1 es2 T1 T2 gs' ρ hsz I, fun i hi => ?_⟩
    obtain ⟨_, o, ho, _⟩ := mem_ready.1 hi
    have hlt := (Array.getElem?_eq_some_iff.1 ho).1
    have hn := ready_not hi
    have hb : ∀ k, ((befores ops).getD i 0).testBit k = true → listed.getD k false = true := fun k hk => ready_before hi hc hk
    have hmem : i ∈ T.map (·.i) := by rw [tr.order]; exact tr.st.all i hlt
    obtain ⟨x, hx, rfl⟩ := List.mem_map.1 hmem
    have hD' : (fun k => (listed.setIfInBounds x.i true).getD k false) = (fun k => (fun k => listed.getD k false) k || k == x.i) := funext fun k => set_get (by omega) k
    have hc' : Closed ops (fun k => (listed.setIfInBounds x.i true).getD k false) := by
      rw [hD']
      intro i hi k hk
      simp only [Bool.or_eq_true, beq_iff_eq] at hi ⊢
      rcases hi with hi | rfl
      · exact .inl (hc i hi k hk)
      · exact .inl (hb k hk)
    have hcnt' : cnt ops.size (listed.setIfInBounds x.i true) ≤ fuel := by
      have := filter_less (p := fun i => !listed.getD i false) (q := fun i => !(listed.setIfInBounds x.i true).getD i false) (l := List.range ops.size) (i := x.i) (fun k hk => by
        simp only [Bool.not_eq_true'] at hk ⊢
        rw [set_get (by omega)] at hk
        simp only [Bool.or_eq_false_iff] at hk
        exact hk.1) (List.mem_range.2 hlt) (by simp only [hn]; rfl) (by rw [set_get (by omega)]; simp)
      unfold cnt at hcnt ⊢
      omega
    have next : ∀ {a' : Act} {w' : World} {j' : Nat} {G' : AS} {es1' es2' : List Nat} {T1' T2' : List TE} {gs'' : List AS} {ρ' : Ren},
        Inv P B ops T ts0 Gs ρ0 s0 w0 (fun i => (fun k => listed.getD k false) i || i == x.i) a' w' j' G' es1' es2' T1' T2' gs'' ρ' → wpAny P .any ops Q fuel (listed.setIfInBounds x.i true) a' w' := by
      intro a' w' j' G' es1' es2' T1' T2' gs'' ρ' I'
      exact ih _ a' w' j' G' es1' es2' T1' T2' gs'' ρ' (by simp [hsz]) hcnt' hc' (by rw [hD']; exact I')
    obtain ⟨hag, hput⟩ := tr_facts tr hc hx ho hn hb
    cases hE : isE o with
    | true =>
      obtain ⟨F, es2', ⟨rec, hrec, h1⟩, h2, h3⟩ := inv_eff tr hc I hx ho hn hb hE
      refine stepOp_sound hrec ho (ts' := putA (tv ops T ts0 fun k => listed.getD k false) o.dst x.v) (s' := F) (by simp only [stepOp, h1]) I.post.rel I.tr fun ρ' a' w' ht' hp' => ?_
      obtain ⟨G', T1', T2', gs'', I'⟩ := h3 ht' hp'
      exact next I'
    | false =>
      obtain ⟨hk, _, G0, hG0, o', ho', _, hgj, hcase⟩ := hne x hx o ho hE
      rw [ho] at ho'
      simp only [Option.some.injEq] at ho'
      subst ho'
      -- the stages at which it may come
      have hlo : x.k ≤ j := by
        rw [← hk]
        unfold lastE
        rw [I.es, countB_append, countB_none (l := es2) (fun e he => ?_)]
        · have := countB_le (fun e => ((befores ops).getD x.i 0).testBit e) es1
          have := I.len
          omega
        · cases h : ((befores ops).getD x.i 0).testBit e with
          | false => rfl
          | true =>
            have h1 := hb e h
            have h2 : listed.getD e false = false := I.off e he
            rw [h1] at h2
            cases h2
      have hhi : j ≤ firstE (befores ops) (effsOf ops.toList 0) x.i := by
        unfold firstE
        rw [I.es, countB_append, countB_all (l := es1) (fun e he => ?_)]
        · have := I.len; omega
        · cases h : ((befores ops).getD e 0).testBit x.i with
          | false => rfl
          | true =>
            have : listed.getD x.i false = true := hc e (I.on e he) x.i h
            rw [hn] at this
            cases this
      have hread' := hread j G I.at_ x hx
      -- the value, here and now
      have stay : stepV P (fun _ => none) ops o x.ts G = some (x.v, G) → wpOp P ops Q x.i (wpAny P .any ops Q fuel (listed.setIfInBounds x.i true)) a w := by
        intro hv
        refine stepOp_sound (rec := fun _ => none) (fun _ _ e => by cases e) ho (ts' := putA (tv ops T ts0 fun k => listed.getD k false) o.dst x.v) (s' := G) (by simp only [stepOp, stepV_congr hag, hv]) I.post.rel I.tr fun ρ' a' w' ht' hp' => ?_
        refine next (inv_stay tr hc I hx ho hn hb hE (I.post.trans hp') ht' fun z hz hkz hm hDz _ => ?_)
        obtain ⟨u1, _, u3, _⟩ := I.unm z hz hkz hm hDz
        rw [hp'.ext _ u3]
        exact u1
      rcases hcase with ⟨hw, hv⟩ | ⟨hw, ⟨hkp, hv⟩ | ⟨hkr, sr, hr1, hr2, hr3, hr4⟩ | ⟨hka, _⟩⟩
      · exact stay (by unfold stepV; rw [hgj, hw, hv]; rfl)
      · exact stay (by unfold stepV opA; rw [hgj, hw, hkp]; simp only [if_true, hv G, Bool.false_eq_true, if_false])
      · refine stay ?_
        unfold readOk at hread'
        rw [ho] at hread'
        simp only [hkr, hw, Bool.true_and] at hread'
        have hb1 : Nat.ble x.k j = true := by simpa using hlo
        have hb2 : Nat.ble j (firstE (befores ops) (effsOf ops.toList 0) x.i) = true := by simpa using hhi
        rw [hb1, hb2] at hread'
        simp only [Bool.and_self, if_true] at hread'
        split at hread'
        · rename_i hst
          have hv := stayed_read hkr hst hr1 hr2 hr3 (hr4.shape.trans (I.shp x.k G0 hlo (by simpa using hG0)))
          unfold stepV opA
          rw [hgj, hw, hkr]
          simp only [if_true, hv, Bool.false_eq_true, if_false]
        split at hread'
        · rename_i v hv
          have := AV.beq_eq hread'
          subst this
          unfold stepV opA
          rw [hgj, hw, hkr]
          simp only [if_true, hv, Bool.false_eq_true, if_false]
        · cases hread'
      · -- it makes a block
        obtain ⟨u1, u2, u3, o', ob, u4, u5, u6, u7⟩ := I.unm x hx hlo ⟨o, ho, hw, hka⟩ hn
        rw [ho] at u4
        simp only [Option.some.injEq] at u4
        subst u4
        have hal : allocA P (tv ops T ts0 fun k => listed.getD k false) x.nx o.op = some (x.v, ob) := by
          rw [allocA_congr _ _ (looks_ev hag)]
          exact u5
        obtain ⟨u, c, sz, r1, r2, r3, r4⟩ := sum_rel (w := w) I.tr I.post.rel.glob o hal
        have hmono := upd_mono (L := ⟨w.heap.size, 0, sz⟩) u1
        unfold wpOp
        simp only [ho, wanted_rel I.tr _ ((gjunk_congr hag).trans hgj), wantedA_congr hag, hw, if_true]
        refine .inl ?_
        unfold Oper.wp
        rw [r1]
        refine next (inv_stay tr hc I hx ho hn hb hE (ρ' := upd ρ x.nx ⟨w.heap.size, 0, sz⟩) ?_ ((I.tr.mono hmono).put o.dst r4) ?_)
        · refine ⟨I.post.rel.materialize u6 u7 u1 r3, fun b hb => ?_, I.post.unt, I.post.shape, ?_⟩
          · rw [upd_other _ _ _ (by omega)]
            exact I.post.ext b hb
          · have := I.post.size
            simp only [World.size_alloc]
            omega
        · intro z hz hkz hm hDz hne'
          have hd := I.dist z hz x hx hkz hlo hm ⟨o, ho, hw, hka⟩ hDz hn hne'
          rw [upd_other _ _ _ hd]
          exact (I.unm z hz hkz hm hDz).1

theorem drawR_sound (hm : P.follows .mixedOrders = true) {ts ts' : List AV} {s s' : AS} {tr : List TE} {gs : List AS} (hok : drawOk ops = true)
    (hst : StagesR P ops (befores ops) (effsOf ops.toList 0) (effsOf ops.toList 0) 0 ts s [] [] ts' s' tr gs) (hheaps : heapsOk P ops (befores ops) (effsOf ops.toList 0) tr 0 gs.reverse = true) {ρ : Ren} {a : Act} {w : World}
    (R : Rel P B ρ s w) (ht : TR ρ ts a) (hQ : ∀ ρ' a' w', TR ρ' ts' a' → Post P B ρ s w ρ' s' w' → Q .normal a' w') (id : Nat) : (Code.region id ops true).wp P Q a w := by
  obtain ⟨T, Gs, e1, e2, e3, hcan, hlast⟩ := stages_spec _ _ _ _ _ _ _ _ _ _ hst
  simp only [List.append_nil] at e1 e2
  subst e1 e2
  have st := drawOk_stat hok
  have trr : Tr ops T ts := ⟨st, can_chain hcan, can_order hcan⟩
  obtain ⟨G, T1, T2, gs', I⟩ := inv_start R ht hcan
  refine wp_region_any hm ?_
  have hempty : (fun k => (Array.replicate ops.size false).getD k false) = (fun _ => false) := by
    funext k
    rw [Array.getD_eq_getD_getElem?, Array.getElem?_replicate]
    split <;> rfl
  refine wpAny_inv (Q := Q) trr (can_some hcan) hlast (can_ne effs_E hcan (fun e he => he)) ?_ (by rw [← e3]; exact hQ) ops.size (Array.replicate ops.size false) a w.drew 0 G [] _ T1 T2 gs' ρ (by simp) ?_ ?_ (by rw [hempty]; exact I)
  · intro j G hG x hx
    rw [List.reverse_reverse] at hheaps
    have := heapsOk_at hheaps hG x (by simpa using hx)
    simpa using this
  · unfold cnt
    refine Nat.le_trans (List.length_filter_le _ _) (by simp)
  · rw [hempty]
    intro i hi
    cases hi

theorem drawRun_sound {rec : Task → Option Res} (hm : P.follows .mixedOrders = true) (hrec : ∀ t r, rec t = some r → Sound P t r) {ts ts' : List AV} {s s' : AS} (h : drawRun P rec ops ts s = some (ts', s')) {ρ : Ren} {a : Act} {w : World}
    (R : Rel P B ρ s w) (ht : TR ρ ts a) (hQ : ∀ ρ' a' w', TR ρ' ts' a' → Post P B ρ s w ρ' s' w' → Q .normal a' w') (id : Nat) : (Code.region id ops true).wp P Q a w := by
  unfold drawRun at h
  split at h
  · rename_i hok
    split at h
    · rename_i ts1 s1 tr gs hst
      split at h
      · rename_i hheaps
        simp only [Option.some.injEq, Prod.mk.injEq] at h
        obtain ⟨rfl, rfl⟩ := h
        exact drawR_sound hm hok (stages_R hrec _ _ _ _ _ _ _ _ _ _ hst) hheaps R ht hQ id
      · simp at h
    · simp at h
  · simp at h
end
end Go.Mini

namespace Go.Mini
open Go Go.RowKit

section
variable {P : Program} {rec : Task → Option Res}

theorem out_ne {e : AExit} : e.out = .normal ∨ (∃ id, e.out = .exit id) ∨ e.out = .ret ∨ ∃ l, e = .goto l := by
  cases e <;> simp [AExit.out]


theorem seq_next {x y : Code} {ts ts1 : List AV} {s s1 : AS} {r : Res} (hx : Sound P (.code x ts s) ⟨.normal, ts1, s1⟩) (hy : Sound P (.code y ts1 s1) r) : Sound P (.code (.seq x y) ts s) r := by
  refine ⟨hy.1, fun B ρ a w R ht => wp_seq (wp_mono (hx.2 B ρ a w R ht) ?_)⟩
  rintro e a1 w1 ⟨rfl, ρ1, ht1, hp1⟩
  refine wp_mono (hy.2 B ρ1 a1 w1 hp1.rel ht1) ?_
  rintro e a2 w2 ⟨rfl, ρ2, ht2, hp2⟩
  exact ⟨rfl, ρ2, ht2, hp1.trans hp2⟩

theorem seq_stop {x y : Code} {ts : List AV} {s : AS} {r : Res} (hx : Sound P (.code x ts s) r) (hne : r.e ≠ .normal) : Sound P (.code (.seq x y) ts s) r := by
  refine ⟨hx.1, fun B ρ a w R ht => wp_seq (wp_mono (hx.2 B ρ a w R ht) ?_)⟩
  rintro e a1 w1 ⟨rfl, ρ1, ht1, hp1⟩
  obtain ⟨e, ts1, s1⟩ := r
  cases e with
  | normal => exact absurd rfl hne
  | exit id => exact ⟨rfl, ρ1, ht1, hp1⟩
  | goto l => exact ⟨rfl, ρ1, ht1, hp1⟩
  | ret => exact ⟨rfl, ρ1, ht1, hp1⟩

theorem cond_true {c : Operand} {x y : Code} {ts : List AV} {s : AS} {r : Res} (hc : evA P ts c = some (.bool true)) (hx : Sound P (.code x ts s) r) : Sound P (.code (.cond c x y) ts s) r := by
  refine ⟨hx.1, fun B ρ a w R ht => ?_⟩
  have := evA_rel R.glob ht hc
  rw [vrel_bool] at this
  exact wp_cond_true this (hx.2 B ρ a w R ht)

theorem cond_false {c : Operand} {x y : Code} {ts : List AV} {s : AS} {r : Res} (hc : evA P ts c = some (.bool false)) (hx : Sound P (.code y ts s) r) : Sound P (.code (.cond c x y) ts s) r := by
  refine ⟨hx.1, fun B ρ a w R ht => ?_⟩
  have := evA_rel R.glob ht hc
  rw [vrel_bool] at this
  exact wp_cond_false this (hx.2 B ρ a w R ht)

theorem block_exit {id id' : Nat} {c : Code} {ts ts' : List AV} {s s' : AS} (hx : Sound P (.code c ts s) ⟨.exit id', ts', s'⟩) (hid : id' = id) : Sound P (.code (.block id c) ts s) ⟨.normal, ts', s'⟩ := by
  refine ⟨by simp, fun B ρ a w R ht => wp_block (wp_mono (hx.2 B ρ a w R ht) ?_)⟩
  rintro e a1 w1 ⟨rfl, ρ1, ht1, hp1⟩
  show (if id' = id then _ else _)
  rw [if_pos hid]
  exact ⟨rfl, ρ1, ht1, hp1⟩

theorem block_past {id : Nat} {c : Code} {ts : List AV} {s : AS} {r : Res} (hx : Sound P (.code c ts s) r) (hid : r.e ≠ .exit id) : Sound P (.code (.block id c) ts s) r := by
  refine ⟨hx.1, fun B ρ a w R ht => wp_block (wp_mono (hx.2 B ρ a w R ht) ?_)⟩
  rintro e a1 w1 ⟨rfl, ρ1, ht1, hp1⟩
  obtain ⟨e, ts1, s1⟩ := r
  cases e with
  | normal => exact ⟨rfl, ρ1, ht1, hp1⟩
  | exit id' =>
    show (if id' = id then _ else _)
    rw [if_neg (fun e => hid (by rw [e]))]
    exact ⟨rfl, ρ1, ht1, hp1⟩
  | goto l => exact ⟨rfl, ρ1, ht1, hp1⟩
  | ret => exact ⟨rfl, ρ1, ht1, hp1⟩

theorem loop_next {c : Code} {ts ts1 : List AV} {s s1 : AS} {r : Res} (hx : Sound P (.code c ts s) ⟨.normal, ts1, s1⟩) (hy : Sound P (.code (.loop c) ts1 s1) r) : Sound P (.code (.loop c) ts s) r := by
  refine ⟨hy.1, fun B ρ a w R ht => wp_unroll ?_ (wp_mono (hx.2 B ρ a w R ht) ?_)⟩
  · rintro e a1 w1 ⟨rfl, _⟩
    rcases out_ne (e := r.e) with h | h | h | ⟨l, h⟩
    · exact .inl h
    · exact .inr (.inl h)
    · exact .inr (.inr h)
    · exact absurd h (hy.1 l)
  · rintro e a1 w1 ⟨rfl, ρ1, ht1, hp1⟩
    refine wp_mono (hy.2 B ρ1 a1 w1 hp1.rel ht1) ?_
    rintro e a2 w2 ⟨rfl, ρ2, ht2, hp2⟩
    exact ⟨rfl, ρ2, ht2, hp1.trans hp2⟩

theorem loop_stop {c : Code} {ts : List AV} {s : AS} {r : Res} (hx : Sound P (.code c ts s) r) (hne : r.e ≠ .normal) : Sound P (.code (.loop c) ts s) r := by
  refine ⟨hx.1, fun B ρ a w R ht => wp_unroll ?_ (wp_mono (hx.2 B ρ a w R ht) ?_)⟩
  · rintro e a1 w1 ⟨rfl, _⟩
    rcases out_ne (e := r.e) with h | h | h | ⟨l, h⟩
    · exact .inl h
    · exact .inr (.inl h)
    · exact .inr (.inr h)
    · exact absurd h (hx.1 l)
  rintro e a1 w1 ⟨rfl, ρ1, ht1, hp1⟩
  obtain ⟨e, ts1, s1⟩ := r
  cases e with
  | normal => exact absurd rfl hne
  | exit id => exact ⟨rfl, ρ1, ht1, hp1⟩
  | goto l => exact ⟨rfl, ρ1, ht1, hp1⟩
  | ret => exact ⟨rfl, ρ1, ht1, hp1⟩

theorem scope_sound {c : Code} {ts : List AV} {s : AS} {r : Res} (hx : Sound P (.code c ts s) r) : Sound P (.code (.scope c) ts s) r := by
  refine ⟨hx.1, fun B ρ a w R ht => wp_scope_straight (wp_mono (hx.2 B ρ a w R ht) ?_)⟩
  rintro e a1 w1 ⟨rfl, ρ1, ht1, hp1⟩
  obtain ⟨e, ts1, s1⟩ := r
  cases e with
  | normal => exact ⟨rfl, ρ1, ht1, hp1⟩
  | exit id => exact ⟨rfl, ρ1, ht1, hp1⟩
  | goto l => exact absurd rfl (hx.1 l)
  | ret => exact ⟨rfl, ρ1, ht1, hp1⟩

theorem skip_sound {ts : List AV} {s : AS} : Sound P (.code .skip ts s) ⟨.normal, ts, s⟩ := ⟨by simp, fun _ ρ _ _ R ht => wp_skip ⟨rfl, ρ, ht, .refl R⟩⟩
theorem label_sound {l : Nat} {ts : List AV} {s : AS} : Sound P (.code (.label l) ts s) ⟨.normal, ts, s⟩ := ⟨by simp, fun _ ρ _ _ R ht => wp_label ⟨rfl, ρ, ht, .refl R⟩⟩
theorem exit_sound {id : Nat} {ts : List AV} {s : AS} : Sound P (.code (.exit id) ts s) ⟨.exit id, ts, s⟩ := ⟨by simp, fun _ ρ _ _ R ht => wp_exit ⟨rfl, ρ, ht, .refl R⟩⟩
theorem ret_sound {ts : List AV} {s : AS} : Sound P (.code .ret ts s) ⟨.ret, ts, s⟩ := ⟨by simp, fun _ ρ _ _ R ht => wp_ret ⟨rfl, ρ, ht, .refl R⟩⟩

theorem region_sound (hm : P.follows .mixedOrders = true) (hrec : ∀ t r, rec t = some r → Sound P t r) {id : Nat} {ops : Array Oper} {draw : Bool} {ts ts' : List AV} {s s' : AS}
    (h : (if draw then drawRun P rec ops ts s else stepOps P rec ops ops.toList ts s) = some (ts', s')) : Sound P (.code (.region id ops draw) ts s) ⟨.normal, ts', s'⟩ := by
  cases draw with
  | true =>
    simp only [if_true] at h
    exact ⟨by simp, fun B ρ a w R ht => drawRun_sound hm hrec h R ht (fun ρ' a' w' ht' hp' => ⟨rfl, ρ', ht', hp'⟩) id⟩
  | false =>
    simp only [Bool.false_eq_true, if_false] at h
    refine ⟨by simp, fun B ρ a w R ht => wp_region ?_⟩
    have := stepOps_sound (Q := fun e a' w' => e = Exit.normal ∧ ∃ ρ', TR ρ' ts' a' ∧ Post P B ρ s w ρ' s' w') hrec ops.toList 0 ts s ts' s' ρ a w (fun j o hj => by simpa using hj) h R ht (fun ρ' a' w' ht' hp' => ⟨rfl, ρ', ht', hp'⟩)
    rw [List.range_eq_range', ← Array.length_toList]
    exact this

theorem call_sound {f : FuncId} {fn : Func} {c : Code} {args ts vs : List AV} {s s' : AS} {e : AExit} (hf : P.funcs[f]? = some fn) (hb : fn.body = some c)
    (hx : Sound P (.code c (args ++ List.replicate (fn.ntmps - args.length) undefA) ⟨⟨s.h.bs, s.h.len, none, []⟩, s.nx⟩) ⟨e, ts, s'⟩) (he : e = .normal ∨ e = .ret) (hvs : resultsA P ts s' fn.results.toList = some vs) :
    Sound P (.call f args s) ⟨.ret, [oneOrTuple vs], leave s s' (oneOrTuple vs)⟩ := by
  intro B ρ cargs w R hargs
  have R0 : Rel P B ρ ⟨⟨s.h.bs, s.h.len, none, []⟩, s.nx⟩ w := R.congr (fun _ => rfl) rfl rfl
  have ht0 : TR ρ (args ++ List.replicate (fn.ntmps - args.length) undefA) { tmps := cargs.toArray ++ Array.replicate (fn.ntmps - cargs.toArray.size) undef, defers := [] } := by
    refine ⟨?_, rfl⟩
    have hl := hargs.length
    simp only [Array.toList_append, Array.toList_replicate, List.size_toArray]
    rw [← hl]
    exact hargs.append (VRels.replicate _ vrel_undef)
  refine calls_of_wp hf hb (wp_mono (hx.2 B ρ _ w R0 ht0) ?_)
  rintro e' a1 w1 ⟨rfl, ρ1, ht1, hp1⟩
  obtain ⟨u, hu, hr⟩ := results_all hp1.rel ht1 hvs
  have hpost := leave_post R rfl hp1 (oneOrTuple vs)
  rcases he with rfl | rfl
  · exact ⟨ht1.df, u, hu, _, u, ρ1, rfl, rfl, hr, hpost⟩
  · exact ⟨ht1.df, u, hu, _, u, ρ1, rfl, rfl, hr, hpost⟩

theorem code_sound (hm : P.follows .mixedOrders = true) (hrec : ∀ t r, rec t = some r → Sound P t r) : ∀ (t : Task) (r : Res), step P rec t = some r → Sound P t r
  | .code c ts s, r, h => by
    cases c with
    | skip =>
      simp only [step, Option.some.injEq] at h
      subst h
      exact skip_sound
    | label l =>
      simp only [step, Option.some.injEq] at h
      subst h
      exact label_sound
    | exit id =>
      simp only [step, Option.some.injEq] at h
      subst h
      exact exit_sound
    | ret =>
      simp only [step, Option.some.injEq] at h
      subst h
      exact ret_sound
    | goto l => simp [step] at h
    | rangeFunc => simp [step] at h
    | refuse => simp [step] at h
    | region id ops draw =>
      simp only [step] at h
      split at h
      · rename_i ts' s' hd
        simp only [Option.some.injEq] at h
        subst h
        exact region_sound hm hrec hd
      · simp at h
    | seq x y =>
      simp only [step] at h
      split at h
      · rename_i ts1 s1 h1
        exact seq_next (hrec _ _ h1) (hrec _ _ h)
      · rename_i hne
        refine seq_stop (hrec _ _ h) (fun e => ?_)
        obtain ⟨e', ts1, s1⟩ := r
        simp only at e
        subst e
        exact hne _ _ h
    | cond c x y =>
      simp only [step] at h
      split at h
      · rename_i hc
        exact cond_true hc (hrec _ _ h)
      · rename_i hc
        exact cond_false hc (hrec _ _ h)
      · simp at h
    | block id c =>
      simp only [step] at h
      split at h
      · rename_i id' ts' s' h1
        split at h
        · rename_i hid
          simp only [Option.some.injEq] at h
          subst h
          exact block_exit (hrec _ _ h1) (Nat.eq_of_beq_eq_true hid)
        · rename_i hid
          simp only [Option.some.injEq] at h
          subst h
          refine block_past (hrec _ _ h1) (fun e => ?_)
          simp only [AExit.exit.injEq] at e
          exact hid (by rw [e]; exact Nat.beq_refl _)
      · rename_i hne
        refine block_past (hrec _ _ h) (fun e => ?_)
        obtain ⟨e', ts1, s1⟩ := r
        simp only at e
        subst e
        exact hne _ _ _ h
    | loop c =>
      simp only [step] at h
      split at h
      · rename_i ts1 s1 h1
        exact loop_next (hrec _ _ h1) (hrec _ _ h)
      · rename_i hne
        refine loop_stop (hrec _ _ h) (fun e => ?_)
        obtain ⟨e', ts1, s1⟩ := r
        simp only at e
        subst e
        exact hne _ _ h
    | scope c =>
      simp only [step] at h
      split at h
      · simp at h
      · exact scope_sound (hrec _ _ h)
  | .call f args s, r, h => by
    simp only [step] at h
    split at h
    case h_2 => simp at h
    rename_i fn hf
    split at h
    case h_2 => simp at h
    rename_i c hb
    split at h
    case h_2 => simp at h
    rename_i e ts s' hc
    have hx := hrec _ _ hc
    have main : (e = .normal ∨ e = .ret) → (match resultsA P ts s' fn.results.toList with
              | some vs => some (⟨.ret, [oneOrTuple vs], leave s s' (oneOrTuple vs)⟩ : Res)
              | none => none) = some r → Sound P (.call f args s) r := by
      intro he h
      split at h
      case h_2 => simp at h
      rename_i vs hvs
      simp only [Option.some.injEq] at h
      subst h
      exact call_sound hf hb hx he hvs
    cases e with
    | normal => exact main (.inl rfl) h
    | ret => exact main (.inr rfl) h
    | exit id => simp at h
    | goto l => simp at h

end
end Go.Mini

namespace Go.Mini
open Go Go.RowKit

/-! ### runs that lean on what is known of calls, and decisions -/
section
variable (P : Program) (hk : Task → Option Res)

/-- With what is known of tasks. -/
def runH : Nat → Task → Option Res := Nat.rec (fun _ => none) (fun _ ih t => match hk t with
  | some r => some r
  | none => step P ih t)

theorem runH_sound {P : Program} {hk : Task → Option Res} (hm : P.follows .mixedOrders = true) (hh : ∀ t r, hk t = some r → Sound P t r) : ∀ (n : Nat) (t : Task) (r : Res), runH P hk n t = some r → Sound P t r
  | 0, _, _, h => by simp [runH] at h
  | n + 1, t, r, h => by
    have h' : (match hk t with
      | some r => some r
      | none => step P (runH P hk n) t) = some r := h
    split at h'
    · rename_i r' hr
      simp only [Option.some.injEq] at h'
      subst h'
      exact hh _ _ hr
    · exact code_sound hm (runH_sound hm hh n) t r h'

/-- Are the laid ones as they were laid? -/
def hasG (s : AS) (G : List (Nat × List AV)) : Bool := G.all fun x => match s.get x.1 with
  | some (.cells _ cs) => AV.beqs cs x.2
  | _ => false
/-- What is decided, in the order in which it comes: of function f, region r, operation i. val: what it puts (of one that reads, or computes); eff: what it puts, and what it makes of the state;
call: likewise of a call; loop: how the next loop ends; skip: nothing, this time. -/
inductive Dec where
  | val (f r i : Nat) (v : AV)
  | eff (f r i : Nat) (v : AV) (t : AS → AS)
  | call (f r i : Nat) (v : AV) (t : AS → AS)
  | pure (f r i : Nat) (G : List (Nat × List AV)) (v : AV)
  | skip (f r i : Nat)
  | loop (f : Nat) (t : List AV → AS → Res)
/-- What is asked. -/
inductive Qst where
  | val (l : Option AV) (v : AV)
  | idx (t : TypeId) (x i v : AV)
  | ld (t : TypeId) (s : AS) (a v : AV)
  | ln (t : TypeId) (s : AS) (a v : AV)
  | sli (t : TypeId) (x : AV) (lo hi mx : Option AV) (v : AV)
  | lk (t : TypeId) (s : AS) (m k : AV) (ok : Bool) (v : AV)
  | upd (t : TypeId) (s : AS) (m k x v : AV) (s' : AS)
  | out (l : Option Out) (v : AV) (s : AS)
  | app (s : AS) (t t2 : TypeId) (x y : AV) (v : AV) (s' : AS)
  | sto (s : AS) (t : TypeId) (a x v : AV) (s' : AS)
  | del (s : AS) (t : TypeId) (m k v : AV) (s' : AS)
  | eqv (s : AS) (t : TypeId) (xs ys : List AV) (pos : Bool) (v : AV)
  | ent (s : AS) (t : TypeId) (m k v : AV) (s' : AS)
  | est (s : AS) (m st x v : AV) (s' : AS)
  | snd (t : Task) (r : Res)
  | pure (G : List (Nat × List AV)) (g : FuncId) (args : List AV) (v : AV)
def Qst.ok : Qst → Prop
  | .val l v => l = some v
  | .idx t x i v => indexAddrA P t x i = some v
  | .ld t s a v => loadA P s t a = some v
  | .ln t s a v => lenA P s t a = some v
  | .sli t x lo hi mx v => sliceA P t x lo hi mx = some v
  | .lk t s m k ok v => lookupA P s t m k ok = some v
  | .upd t s m k x v s' => updateA P s t m k x = some s' ∧ v = undefA
  | .out l v s => l = some (.val v s)
  | .app s t t2 x y v s' => appendA P s t t2 x y = some (v, s')
  | .sto s t a x v s' => storeA P s t a x = some s' ∧ v = undefA
  | .del s t m k v s' => deleteA P s t m k = some s' ∧ v = undefA
  | .eqv s t xs ys pos v => ∃ r, eqlA P s t (.agg xs) (.agg ys) = some r ∧ v = .bool (if pos then r else !r)
  | .ent s t m k v s' => ∃ x n, entryA P s t m k = some (x, n, s') ∧ v = .tuple [x, .int .i64 (Int.ofNat n)]
  | .est s m st x v s' => entryStoreA s m st x = some s' ∧ v = undefA
  | .snd t r => Sound P t r
  | .pure G g args v => ∀ s, hasG s G = true → Sound P (.call g args s) ⟨.ret, [v], s⟩
def Qsts : List Qst → Prop
  | [] => True
  | x :: l => x.ok P ∧ Qsts l

/-- What is asked where an operation is said to put v. -/
def qOf (ts : List AV) (s : AS) (op : Op) (v : AV) : Qst :=
  match op with
  | .indexAddr t x i => match evA P ts x, evA P ts i with
    | some a, some b => .idx t a b v
    | _, _ => .val (valA P ts s op) v
  | .load t x => match evA P ts x with
    | some a => .ld t s a v
    | none => .val (valA P ts s op) v
  | .lookup t m k ok => match evA P ts m, evA P ts k with
    | some a, some b => .lk t s a b ok v
    | _, _ => .val (valA P ts s op) v
  | .slice t x lo hi mx => match evA P ts x, optA P ts lo, optA P ts hi, optA P ts mx with
    | some a, some l, some h, some m => .sli t a l h m v
    | _, _, _, _ => .val (valA P ts s op) v
  | .call c => match c.callee with
    | .builtin .len => match c.args.toList, c.argTypes.toList with
      | [x], t :: _ => match evA P ts x with
        | some a => .ln t s a v
        | none => .val (valA P ts s op) v
      | _, _ => .val (valA P ts s op) v
    | _ => .val (valA P ts s op) v
  | .binOp bo t x y _ => match bo with
    | .neq => match evA P ts x, evA P ts y with
      | some (.agg xs), some (.agg ys) => .eqv s t xs ys false v
      | _, _ => .val (valA P ts s op) v
    | .eql => match evA P ts x, evA P ts y with
      | some (.agg xs), some (.agg ys) => .eqv s t xs ys true v
      | _, _ => .val (valA P ts s op) v
    | _ => .val (valA P ts s op) v
  | _ => .val (valA P ts s op) v
/-- Likewise, of one that turns the state. -/
def qOut (ts : List AV) (s : AS) (op : Op) (v : AV) (s' : AS) : Qst :=
  match op with
  | .mapUpdate t m k x => match evA P ts m, evA P ts k, evA P ts x with
    | some a, some b, some c => .upd t s a b c v s'
    | _, _, _ => .out (opA P ts s op) v s'
  | .store t a x => match evA P ts a, evA P ts x with
    | some p, some y => .sto s t p y v s'
    | _, _ => .out (opA P ts s op) v s'
  | .mapEntry t m k => match evA P ts m, evA P ts k with
    | some a, some b => .ent s t a b v s'
    | _, _ => .out (opA P ts s op) v s'
  | .entryStore _ m st x => match evA P ts m, evA P ts st, evA P ts x with
    | some a, some b, some c => .est s a b c v s'
    | _, _, _ => .out (opA P ts s op) v s'
  | .call c => match c.callee with
    | .builtin .append => match evL P ts c.args.toList with
      | some args => match args with
        | [x, y] => match c.argTypes.toList with
          | t :: t2 :: _ => .app s t t2 x y v s'
          | _ => .out (opA P ts s op) v s'
        | _ => .out (opA P ts s op) v s'
      | none => .out (opA P ts s op) v s'
    | .builtin .delete => match evL P ts c.args.toList with
      | some args => match args with
        | [x, y] => match c.argTypes.toList with
          | t :: _ => .del s t x y v s'
          | _ => .out (opA P ts s op) v s'
        | _ => .out (opA P ts s op) v s'
      | none => .out (opA P ts s op) v s'
    | _ => .out (opA P ts s op) v s'
  | _ => .out (opA P ts s op) v s'
theorem qOut_ok {ts : List AV} {s s' : AS} {op : Op} {v : AV} (h : (qOut P ts s op v s').ok P) : opA P ts s op = some (.val v s') := by
  unfold qOut at h
  split at h
  · split at h
    · rename_i h1 h2 h3
      obtain ⟨k1, rfl⟩ := h
      simp only [opA, kindOf, effA, h1, h2, h3, k1]
    · exact h
  · split at h
    · rename_i h1 h2
      obtain ⟨k1, rfl⟩ := h
      simp only [opA, kindOf, effA, h1, h2, k1]
    · exact h
  · split at h
    · rename_i h1 h2
      obtain ⟨_, _, k1, rfl⟩ := h
      simp only [opA, kindOf, effA, h1, h2, k1]
    · exact h
  · split at h
    · rename_i h1 h2 h3
      obtain ⟨k1, rfl⟩ := h
      simp only [opA, kindOf, effA, h1, h2, h3, k1]
    · exact h
  · split at h
    · rename_i hc
      split at h
      · rename_i h1
        split at h
        · split at h
          · rename_i h2
            simp only [opA, kindOf, hc, effA, h1, h2]
            simp only [Qst.ok] at h
            rw [h]
          · exact h
        · exact h
      · exact h
    · rename_i hc
      split at h
      · rename_i h1
        split at h
        · split at h
          · rename_i h2
            obtain ⟨k1, rfl⟩ := h
            simp only [opA, kindOf, hc, effA, h1, h2, k1]
          · exact h
        · exact h
      · exact h
    · exact h
  · exact h
theorem qOf_ok {ts : List AV} {s : AS} {op : Op} {v : AV} (h : (qOf P ts s op v).ok P) : valA P ts s op = some v := by
  unfold qOf at h
  split at h
  · split at h
    · rename_i h1 h2
      simp only [valA, h1, h2]
      exact h
    · exact h
  · split at h
    · rename_i h1
      simp only [valA, h1]
      exact h
    · exact h
  · split at h
    · rename_i h1 h2
      simp only [valA, h1, h2]
      exact h
    · exact h
  · split at h
    · rename_i h1 h2 h3 h4
      simp only [valA, h1, h2, h3, h4]
      exact h
    · exact h
  · split at h
    · rename_i hc
      split at h
      · rename_i h1 h2
        split at h
        · rename_i h3
          simp only [valA, hc, h1, h2, h3]
          exact h
        · exact h
      · exact h
    · exact h
  · split at h
    · split at h
      · rename_i h1 h2
        obtain ⟨r, k1, rfl⟩ := h
        simp only [valA, h1, h2, eqlO, nilBoth, Bool.false_and, Bool.false_eq_true, if_false, k1]
      · exact h
    · split at h
      · rename_i h1 h2
        obtain ⟨r, k1, rfl⟩ := h
        simp only [valA, h1, h2, eqlO, nilBoth, Bool.false_and, Bool.false_eq_true, if_false, k1]
        rfl
      · exact h
    · exact h
  · exact h

def isPR (op : Op) : Bool := match kindOf op with
  | .P => true
  | .R => true
  | _ => false
def here (f r i f' r' i' : Nat) : Bool := Nat.beq i i' && Nat.beq r r' && Nat.beq f f'

/-- Runs of nested tasks, with decisions. -/
abbrev RT := Nat → Task → List Dec → Option (Res × List Dec × List Qst)
variable (rec : RT)
def plainT (f : Nat) (o : Oper) (ts : List AV) (s : AS) (ds : List Dec) : Option (AV × AS × List Dec × List Qst) :=
  match opA P ts s o.op with
  | some (.val v s') => some (v, s', ds, [])
  | some (.enter g args) => match rec f (.call g args s) ds with
    | some (⟨_, [v], s'⟩, ds', q) => some (v, s', ds', q)
    | _ => none
  | none => none
def stepT (f r : Nat) (ops : Array Oper) (i : Nat) (o : Oper) (ts : List AV) (s : AS) (ds : List Dec) : Option (AV × AS × List Dec × List Qst) :=
  if gjunk ops ts o then none else if wantedA ops ts o then match ds with
    | [] => plainT P rec f o ts s []
    | d :: rest => match d with
      | .val f' r' i' v => if here f r i f' r' i' then (if isPR o.op then some (v, s, rest, [qOf P ts s o.op v]) else none) else plainT P rec f o ts s (d :: rest)
      | .eff f' r' i' v t => if here f r i f' r' i' then some (v, t s, rest, [qOut P ts s o.op v (t s)]) else plainT P rec f o ts s (d :: rest)
      | .call f' r' i' v t => if here f r i f' r' i' then (match opA P ts s o.op with
        | some (.enter g args) => some (v, t s, rest, [.snd (.call g args s) ⟨.ret, [v], t s⟩])
        | _ => none) else plainT P rec f o ts s (d :: rest)
      | .pure f' r' i' G v => if here f r i f' r' i' then (match opA P ts s o.op with
        | some (.enter g args) => if hasG s G then some (v, s, rest, [.pure G g args v]) else none
        | _ => none) else plainT P rec f o ts s (d :: rest)
      | .skip f' r' i' => if here f r i f' r' i' then plainT P rec f o ts s rest else plainT P rec f o ts s (d :: rest)
      | .loop _ _ => plainT P rec f o ts s (d :: rest)
  else some (undefA, s, ds, [])
def opsT (f r : Nat) (ops : Array Oper) : List Oper → Nat → List AV → AS → List Dec → Option (List AV × AS × List Dec × List Qst)
  | [], _, ts, s, ds => some (ts, s, ds, [])
  | o :: l, i, ts, s, ds => match stepT P rec f r ops i o ts s ds with
    | some (v, s', ds', q) => match opsT f r ops l (i + 1) (putA ts o.dst v) s' ds' with
      | some (ts', s'', ds'', q') => some (ts', s'', ds'', q ++ q')
      | none => none
    | none => none
def stageT (f r : Nat) (ops : Array Oper) (k : Nat) : List Nat → List AV → AS → List TE → List Dec → Option ((List AV × AS × List TE) × List Dec × List Qst)
  | [], ts, s, tr, ds => some ((ts, s, tr), ds, [])
  | i :: l, ts, s, tr, ds => match ops[i]? with
    | some o => match stepT P rec f r ops i o ts s ds with
      | some (v, s', ds', q) => match stageT f r ops k l (putA ts o.dst v) s' (⟨i, ts, s.nx, k, v, s.h.wr⟩ :: tr) ds' with
        | some (x, ds'', q') => some (x, ds'', q ++ q')
        | none => none
      | none => none
    | none => none
def stagesT (f r : Nat) (ops : Array Oper) (bf es : List Nat) : List Nat → Nat → List AV → AS → List TE → List AS → List Dec → Option ((List AV × AS × List TE × List AS) × List Dec × List Qst)
  | rest, k, ts, s, tr, gs, ds => match stageT P rec f r ops k (stageOf bf es k ops.toList 0) ts s tr ds with
    | some ((ts', s', tr'), ds', q) => match rest with
      | [] => some ((ts', s', tr', s' :: gs), ds', q)
      | e :: rest' => match ops[e]? with
        | some o => match stepT P rec f r ops e o ts' s' ds' with
          | some (v, s'', ds'', q') => match stagesT f r ops bf es rest' (k + 1) (putA ts' o.dst v) s'' (⟨e, ts', s'.nx, k, v, s'.h.wr⟩ :: tr') (s' :: gs) ds'' with
            | some (x, ds3, q'') => some (x, ds3, q ++ (q' ++ q''))
            | none => none
          | none => none
        | none => none
    | none => none
def drawT0 (f r : Nat) (ops : Array Oper) (ts : List AV) (s : AS) (ds : List Dec) : Option (List AV × AS × List Dec × List Qst) :=
    match stagesT P rec f r ops (befores ops) (effsOf ops.toList 0) (effsOf ops.toList 0) 0 ts s [] [] ds with
    | some ((ts', s', tr, gs), ds', q) => if heapsOk P ops (befores ops) (effsOf ops.toList 0) tr 0 gs.reverse then some (ts', s', ds', q) else none
    | none => none
/-- What is to be asked, that reads may come where they may. -/
def readQ (ops : Array Oper) (bf es : List Nat) (s : AS) (k : Nat) (r : TE) : List Qst :=
  match ops[r.i]? with
  | some o => match kindOf o.op with
    | .R => if wantedA ops r.ts o && Nat.ble r.k k && Nat.ble k (firstE bf es r.i) then [qOf P r.ts s o.op r.v] else []
    | _ => []
  | none => [.val none r.v]
def readsQ (ops : Array Oper) (bf es : List Nat) (s : AS) (k : Nat) : List TE → List Qst
  | [] => []
  | r :: tr => readQ P ops bf es s k r ++ readsQ ops bf es s k tr
def heapsQ (ops : Array Oper) (bf es : List Nat) (tr : List TE) : Nat → List AS → List Qst
  | _, [] => []
  | k, s :: l => readsQ P ops bf es s k tr ++ heapsQ ops bf es tr (k + 1) l
def drawT1 (f r : Nat) (ops : Array Oper) (ts : List AV) (s : AS) (ds : List Dec) : Option (List AV × AS × List Dec × List Qst) :=
    match stagesT P rec f r ops (befores ops) (effsOf ops.toList 0) (effsOf ops.toList 0) 0 ts s [] [] ds with
    | some ((ts', s', tr, gs), ds', q) => some (ts', s', ds', q ++ heapsQ P ops (befores ops) (effsOf ops.toList 0) tr 0 gs.reverse)
    | none => none
/-- A region that draws its order; behind `.skip f r 999` what is read is asked. -/
def drawT (f r : Nat) (ops : Array Oper) (ts : List AV) (s : AS) (ds : List Dec) : Option (List AV × AS × List Dec × List Qst) :=
  if drawOk ops then match ds with
    | .skip f' r' i' :: rest => if here f r 999 f' r' i' then drawT1 P rec f r ops ts s rest else drawT0 P rec f r ops ts s ds
    | _ => drawT0 P rec f r ops ts s ds
  else none
end

section
variable {P : Program} {rec : RT} {ops : Array Oper}
theorem qsts_app {a b : List Qst} : Qsts P (a ++ b) ↔ Qsts P a ∧ Qsts P b := by
  induction a with
  | nil => simp [Qsts]
  | cons x a ih => simp [Qsts, ih, and_assoc]

theorem sv_call {o : Oper} {ts : List AV} {s s' : AS} {g : FuncId} {args : List AV} {e : AExit} {v : AV} (hgj : gjunk ops ts o = false) (hw : wantedA ops ts o = true) (h : opA P ts s o.op = some (.enter g args)) (hs : Sound P (.call g args s) ⟨e, [v], s'⟩) :
    SV P ops o ts s v s' := by
  classical
  refine ⟨fun t => if t = .call g args s then some ⟨e, [v], s'⟩ else none, fun t r ht => ?_, ?_⟩
  · dsimp only at ht
    split at ht
    · rename_i he
      simp only [Option.some.injEq] at ht
      subst ht he
      exact hs
    · cases ht
  · unfold stepV
    rw [hgj, hw, h]
    simp only [if_true, Bool.false_eq_true, if_false]
theorem sv_val {o : Oper} {ts : List AV} {s s' : AS} {v : AV} (hgj : gjunk ops ts o = false) (hw : wantedA ops ts o = true) (h : opA P ts s o.op = some (.val v s')) : SV P ops o ts s v s' := by
  refine ⟨fun _ => none, (fun _ _ h => by cases h), ?_⟩
  unfold stepV
  rw [hgj, hw, h]
  simp only [if_true, Bool.false_eq_true, if_false]
theorem sv_skip {o : Oper} {ts : List AV} {s : AS} (hgj : gjunk ops ts o = false) (hw : wantedA ops ts o = false) : SV P ops o ts s undefA s := by
  refine ⟨fun _ => none, (fun _ _ h => by cases h), ?_⟩
  unfold stepV
  rw [hgj, hw]
  rfl

def RTok (P : Program) (rec : RT) : Prop := ∀ f t ds r ds' q, rec f t ds = some (r, ds', q) → Qsts P q → Sound P t r

theorem plainT_sv (hrec : RTok P rec) {f : Nat} {o : Oper} {ts : List AV} {s s' : AS} {v : AV} {ds ds' : List Dec} {q : List Qst} (hgj : gjunk ops ts o = false) (hw : wantedA ops ts o = true) (h : plainT P rec f o ts s ds = some (v, s', ds', q)) (hq : Qsts P q) :
    SV P ops o ts s v s' := by
  unfold plainT at h
  split at h
  · rename_i ho
    simp only [Option.some.injEq, Prod.mk.injEq] at h
    obtain ⟨rfl, rfl, _⟩ := h
    exact sv_val hgj hw ho
  · rename_i ho
    split at h
    · rename_i hr
      simp only [Option.some.injEq, Prod.mk.injEq] at h
      obtain ⟨rfl, rfl, rfl, rfl⟩ := h
      exact sv_call hgj hw ho (hrec _ _ _ _ _ _ hr hq)
    · cases h
  · cases h

theorem stepT_sv (hrec : RTok P rec) {f r i : Nat} {o : Oper} {ts : List AV} {s s' : AS} {v : AV} {ds ds' : List Dec} {q : List Qst} (h : stepT P rec f r ops i o ts s ds = some (v, s', ds', q)) (hq : Qsts P q) :
    SV P ops o ts s v s' := by
  unfold stepT at h
  split at h
  · cases h
  rename_i hgj
  have hgj : gjunk ops ts o = false := by simpa using hgj
  split at h
  case isFalse hw =>
    simp only [Option.some.injEq, Prod.mk.injEq] at h
    obtain ⟨rfl, rfl, _⟩ := h
    exact sv_skip hgj (by simpa using hw)
  rename_i hw
  split at h
  · exact plainT_sv hrec hgj hw h hq
  · split at h
    · split at h
      · split at h
        · rename_i hpr
          simp only [Option.some.injEq, Prod.mk.injEq] at h
          obtain ⟨rfl, rfl, rfl, rfl⟩ := h
          have hv := qOf_ok P hq.1
          refine sv_val hgj hw ?_
          unfold isPR at hpr
          unfold opA
          cases hk : kindOf o.op <;> simp only [hk] at hpr ⊢ <;> first | (rw [hv]) | cases hpr
        · cases h
      · exact plainT_sv hrec hgj hw h hq
    · split at h
      · simp only [Option.some.injEq, Prod.mk.injEq] at h
        obtain ⟨rfl, rfl, rfl, rfl⟩ := h
        exact sv_val hgj hw (qOut_ok P hq.1)
      · exact plainT_sv hrec hgj hw h hq
    · split at h
      · split at h
        · rename_i ho
          simp only [Option.some.injEq, Prod.mk.injEq] at h
          obtain ⟨rfl, rfl, rfl, rfl⟩ := h
          exact sv_call hgj hw ho hq.1
        · cases h
      · exact plainT_sv hrec hgj hw h hq
    · split at h
      · split at h
        · rename_i ho
          split at h
          · rename_i hG
            simp only [Option.some.injEq, Prod.mk.injEq] at h
            obtain ⟨rfl, rfl, rfl, rfl⟩ := h
            exact sv_call hgj hw ho (hq.1 _ hG)
          · cases h
        · cases h
      · exact plainT_sv hrec hgj hw h hq
    · split at h
      · exact plainT_sv hrec hgj hw h hq
      · exact plainT_sv hrec hgj hw h hq
    · exact plainT_sv hrec hgj hw h hq

def OpsR (P : Program) (ops : Array Oper) : List Oper → List AV → AS → List AV → AS → Prop
  | [], ts, s, ts', s' => ts' = ts ∧ s' = s
  | o :: l, ts, s, ts', s' => ∃ v s1, SV P ops o ts s v s1 ∧ OpsR P ops l (putA ts o.dst v) s1 ts' s'
theorem opsT_R (hrec : RTok P rec) {f r : Nat} : ∀ {l : List Oper} {i : Nat} {ts ts' : List AV} {s s' : AS} {ds ds' : List Dec} {q : List Qst}, opsT P rec f r ops l i ts s ds = some (ts', s', ds', q) → Qsts P q → OpsR P ops l ts s ts' s'
  | [], i, ts, ts', s, s', ds, ds', q, h, hq => by
    simp only [opsT, Option.some.injEq, Prod.mk.injEq] at h
    obtain ⟨rfl, rfl, _⟩ := h
    exact ⟨rfl, rfl⟩
  | o :: l, i, ts, ts', s, s', ds, ds', q, h, hq => by
    simp only [opsT] at h
    split at h
    case h_2 => simp at h
    rename_i v s1 ds1 q1 h1
    split at h
    case h_2 => simp at h
    rename_i ts2 s2 ds2 q2 h2
    simp only [Option.some.injEq, Prod.mk.injEq] at h
    obtain ⟨rfl, rfl, rfl, rfl⟩ := h
    rw [qsts_app] at hq
    exact ⟨v, s1, stepT_sv hrec h1 hq.1, opsT_R hrec h2 hq.2⟩
theorem stageT_R (hrec : RTok P rec) {f r k : Nat} : ∀ {l : List Nat} {ts ts' : List AV} {s s' : AS} {tr tr' : List TE} {ds ds' : List Dec} {q : List Qst}, stageT P rec f r ops k l ts s tr ds = some ((ts', s', tr'), ds', q) → Qsts P q →
    StageR P ops k l ts s tr ts' s' tr'
  | [], ts, ts', s, s', tr, tr', ds, ds', q, h, hq => by
    simp only [stageT, Option.some.injEq, Prod.mk.injEq] at h
    obtain ⟨⟨rfl, rfl, rfl⟩, _⟩ := h
    exact ⟨rfl, rfl, rfl⟩
  | i :: l, ts, ts', s, s', tr, tr', ds, ds', q, h, hq => by
    simp only [stageT] at h
    split at h
    case h_2 => simp at h
    rename_i o ho
    split at h
    case h_2 => simp at h
    rename_i v s1 ds1 q1 h1
    split at h
    case h_2 => simp at h
    rename_i x ds2 q2 h2
    simp only [Option.some.injEq, Prod.mk.injEq] at h
    obtain ⟨rfl, rfl, rfl⟩ := h
    rw [qsts_app] at hq
    exact ⟨o, v, s1, ho, stepT_sv hrec h1 hq.1, stageT_R hrec h2 hq.2⟩
theorem stagesT_R (hrec : RTok P rec) {f r : Nat} {bf es : List Nat} : ∀ {rest : List Nat} {k : Nat} {ts ts' : List AV} {s s' : AS} {tr tr' : List TE} {gs gs' : List AS} {ds ds' : List Dec} {q : List Qst},
    stagesT P rec f r ops bf es rest k ts s tr gs ds = some ((ts', s', tr', gs'), ds', q) → Qsts P q → StagesR P ops bf es rest k ts s tr gs ts' s' tr' gs'
  | [], k, ts, ts', s, s', tr, tr', gs, gs', ds, ds', q, h, hq => by
    unfold stagesT at h
    split at h
    case h_2 => simp at h
    rename_i ts1 s1 tr1 ds1 q1 h1
    simp only [Option.some.injEq, Prod.mk.injEq] at h
    obtain ⟨⟨rfl, rfl, rfl, rfl⟩, rfl, rfl⟩ := h
    exact ⟨stageT_R hrec h1 hq, rfl⟩
  | e :: rest, k, ts, ts', s, s', tr, tr', gs, gs', ds, ds', q, h, hq => by
    unfold stagesT at h
    split at h
    case h_2 => simp at h
    rename_i ts1 s1 tr1 ds1 q1 h1
    dsimp only at h
    split at h
    case h_2 => simp at h
    rename_i o ho
    split at h
    case h_2 => simp at h
    rename_i v s2 ds2 q2 h2
    split at h
    case h_2 => simp at h
    rename_i x ds3 q3 h3
    simp only [Option.some.injEq, Prod.mk.injEq] at h
    obtain ⟨rfl, rfl, rfl⟩ := h
    rw [qsts_app, qsts_app] at hq
    exact ⟨ts1, s1, tr1, o, v, s2, stageT_R hrec h1 hq.1, ho, stepT_sv hrec h2 hq.2.1, stagesT_R hrec h3 hq.2.2⟩

mutual
theorem AV.beq_self : ∀ a : AV, AV.beq a a = true
  | .bool a => by simp [AV.beq]
  | .int j a => by simp [AV.beq]
  | .str a => by
    show (a == a) = true
    cases a with
    | mk d =>
      show (d == d) = true
      exact beq_self_eq_true d
  | .nilPtr => rfl
  | .ptr a b => by simp [AV.beq, Nat.beq_refl]
  | .nilSlice => rfl
  | .slice a b c d => by simp [AV.beq, Nat.beq_refl]
  | .osl a b c d => by simp [AV.beq, Nat.beq_refl]
  | .nilMap => rfl
  | .map b => by simp [AV.beq, Nat.beq_refl]
  | .func f c d => by simp [AV.beq, AV.beqs_self c, AV.beqs_self d]
  | .nilFunc => rfl
  | .iface t a => by simp [AV.beq, Nat.beq_refl, AV.beq_self a]
  | .nilIface => rfl
  | .agg a => by simp [AV.beq, AV.beqs_self a]
  | .tuple a => by simp [AV.beq, AV.beqs_self a]
theorem AV.beqs_self : ∀ a : List AV, AV.beqs a a = true
  | [] => rfl
  | x :: xs => by simp [AV.beqs, AV.beq_self x, AV.beqs_self xs]
end
theorem readQ_ok {bf es : List Nat} {s : AS} {k : Nat} {r : TE} (h : Qsts P (readQ P ops bf es s k r)) : readOk P ops bf es s k r = true := by
  unfold readQ at h
  unfold readOk
  split at h
  · rename_i o ho
    rw [ho]
    simp only
    split at h
    · rename_i hk
      rw [hk]
      simp only
      split at h
      · rename_i hc
        rw [if_pos hc]
        split
        · rfl
        · rw [qOf_ok P h.1]
          exact AV.beq_self _
      · rename_i hc
        rw [if_neg hc]
    · rename_i hk
      split
      · rename_i h2
        exact absurd h2 hk
      · rfl
  · cases h.1
theorem readsQ_ok {bf es : List Nat} {s : AS} {k : Nat} : ∀ {tr : List TE}, Qsts P (readsQ P ops bf es s k tr) → tr.all (readOk P ops bf es s k) = true
  | [], _ => rfl
  | r :: tr, h => by
    simp only [readsQ] at h
    rw [qsts_app] at h
    rw [List.all_cons, readQ_ok h.1, readsQ_ok h.2]
    rfl
theorem heapsQ_ok {bf es : List Nat} {tr : List TE} : ∀ {gs : List AS} {k : Nat}, Qsts P (heapsQ P ops bf es tr k gs) → heapsOk P ops bf es tr k gs = true
  | [], _, _ => rfl
  | s :: l, k, h => by
    simp only [heapsQ] at h
    rw [qsts_app] at h
    show (tr.all (readOk P ops bf es s k) && heapsOk P ops bf es tr (k + 1) l) = true
    rw [readsQ_ok h.1, heapsQ_ok h.2]
    rfl
theorem drawT_R (hrec : RTok P rec) {f r : Nat} {ts ts' : List AV} {s s' : AS} {ds ds' : List Dec} {q : List Qst} (h : drawT P rec f r ops ts s ds = some (ts', s', ds', q)) (hq : Qsts P q) :
    drawOk ops = true ∧ ∃ tr gs, StagesR P ops (befores ops) (effsOf ops.toList 0) (effsOf ops.toList 0) 0 ts s [] [] ts' s' tr gs ∧ heapsOk P ops (befores ops) (effsOf ops.toList 0) tr 0 gs.reverse = true := by
  have z : ∀ ds, drawT0 P rec f r ops ts s ds = some (ts', s', ds', q) → ∃ tr gs, StagesR P ops (befores ops) (effsOf ops.toList 0) (effsOf ops.toList 0) 0 ts s [] [] ts' s' tr gs ∧ heapsOk P ops (befores ops) (effsOf ops.toList 0) tr 0 gs.reverse = true := fun ds h => by
    unfold drawT0 at h
    split at h
    case h_2 => simp at h
    rename_i ts1 s1 tr gs ds1 q1 h1
    split at h
    case isFalse => simp at h
    rename_i hheaps
    simp only [Option.some.injEq, Prod.mk.injEq] at h
    obtain ⟨rfl, rfl, rfl, rfl⟩ := h
    exact ⟨tr, gs, stagesT_R hrec h1 hq, hheaps⟩
  unfold drawT at h
  split at h
  case isFalse => simp at h
  rename_i hok
  refine ⟨hok, ?_⟩
  split at h
  · split at h
    · unfold drawT1 at h
      split at h
      case h_2 => simp at h
      rename_i ts1 s1 tr gs ds1 q1 h1
      simp only [Option.some.injEq, Prod.mk.injEq] at h
      obtain ⟨rfl, rfl, rfl, rfl⟩ := h
      rw [qsts_app] at hq
      exact ⟨tr, gs, stagesT_R hrec h1 hq.1, heapsQ_ok hq.2⟩
    · exact z _ h
  · exact z _ h

theorem opsR_sound {B : Base} {Q : Exit → Act → World → Prop} : ∀ (l : List Oper) (k : Nat) (ts : List AV) (s : AS) (ts' : List AV) (s' : AS) (ρ : Ren) (a : Act) (w : World),
    (∀ j o, l[j]? = some o → ops[k + j]? = some o) → OpsR P ops l ts s ts' s' → Rel P B ρ s w → TR ρ ts a →
    (∀ ρ' a' w', TR ρ' ts' a' → Post P B ρ s w ρ' s' w' → Q .normal a' w') → wpOps P ops Q (List.range' k l.length) a w
  | [], k, ts, s, ts', s', ρ, a, w, _, h, R, ht, hQ => by
    obtain ⟨rfl, rfl⟩ := h
    simp only [List.length_nil, List.range'_zero, wpOps]
    exact hQ ρ a w ht (.refl R)
  | o :: l, k, ts, s, ts', s', ρ, a, w, hl, h, R, ht, hQ => by
    obtain ⟨v, s1, ⟨rec, hrec, h1⟩, h⟩ := h
    simp only [List.length_cons, List.range'_succ]
    rw [wpOps_cons]
    refine stepOp_sound hrec (ts' := putA ts o.dst v) (s' := s1) (by simpa using hl 0 o (by simp)) (by simp only [stepOp, h1]) R ht fun ρ1 a1 w1 ht1 hp1 => ?_
    refine opsR_sound l (k + 1) _ s1 ts' s' ρ1 a1 w1 (fun j o' hj => ?_) h hp1.rel ht1 fun ρ2 a2 w2 ht2 hp2 => hQ ρ2 a2 w2 ht2 (hp1.trans hp2)
    rw [show k + 1 + j = k + (j + 1) from by omega]
    exact hl (j + 1) o' (by simpa using hj)

theorem regionT_sound (hm : P.follows .mixedOrders = true) (hrec : RTok P rec) {id f : Nat} {draw : Bool} {ts ts' : List AV} {s s' : AS} {ds ds' : List Dec} {q : List Qst}
    (h : (if draw then drawT P rec f id ops ts s ds else opsT P rec f id ops ops.toList 0 ts s ds) = some (ts', s', ds', q)) (hq : Qsts P q) : Sound P (.code (.region id ops draw) ts s) ⟨.normal, ts', s'⟩ := by
  cases draw with
  | true =>
    simp only [if_true] at h
    obtain ⟨hok, tr, gs, hst, hheaps⟩ := drawT_R hrec h hq
    exact ⟨by simp, fun B ρ a w R ht => drawR_sound hm hok hst hheaps R ht (fun ρ' a' w' ht' hp' => ⟨rfl, ρ', ht', hp'⟩) id⟩
  | false =>
    simp only [Bool.false_eq_true, if_false] at h
    refine ⟨by simp, fun B ρ a w R ht => wp_region ?_⟩
    have := opsR_sound (B := B) (Q := fun e a' w' => e = Exit.normal ∧ ∃ ρ', TR ρ' ts' a' ∧ Post P B ρ s w ρ' s' w') ops.toList 0 ts s ts' s' ρ a w (fun j o hj => by simpa using hj) (opsT_R hrec h hq) R ht (fun ρ' a' w' ht' hp' => ⟨rfl, ρ', ht', hp'⟩)
    rw [List.range_eq_range', ← Array.length_toList]
    exact this
end

section
variable (P : Program) (hk : Task → Option Res)
/-- A task, with decisions, in order. -/
def runX : Nat → RT := Nat.rec (fun _ _ _ => none) (fun _ ih f t ds =>
  match t with
  | .code c ts s => match c with
    | .region id ops draw => match (if draw then drawT P ih f id ops ts s ds else opsT P ih f id ops ops.toList 0 ts s ds) with
      | some (ts', s', ds', q) => some (⟨.normal, ts', s'⟩, ds', q)
      | none => none
    | .seq a b => match ih f (.code a ts s) ds with
      | some (⟨.normal, ts', s'⟩, ds', q) => match ih f (.code b ts' s') ds' with
        | some (r, ds'', q') => some (r, ds'', q ++ q')
        | none => none
      | r => r
    | .cond c a b => match evA P ts c with
      | some (.bool true) => ih f (.code a ts s) ds
      | some (.bool false) => ih f (.code b ts s) ds
      | _ => none
    | .block id c => match ih f (.code c ts s) ds with
      | some (⟨.exit id', ts', s'⟩, ds', q) => if Nat.beq id' id then some (⟨.normal, ts', s'⟩, ds', q) else some (⟨.exit id', ts', s'⟩, ds', q)
      | r => r
    | .loop c => match ds with
      | .loop f' t :: rest => if Nat.beq f f' then some (t ts s, rest, [.snd (.code (.loop c) ts s) (t ts s)]) else none
      | _ => match ih f (.code c ts s) ds with
        | some (⟨.normal, ts', s'⟩, ds', q) => match ih f (.code (.loop c) ts' s') ds' with
          | some (r, ds'', q') => some (r, ds'', q ++ q')
          | none => none
        | r => r
    | .scope c => match ih f (.code c ts s) ds with
      | some (⟨.goto _, _, _⟩, _, _) => none
      | r => r
    | .skip => some (⟨.normal, ts, s⟩, ds, [])
    | .label _ => some (⟨.normal, ts, s⟩, ds, [])
    | .exit id => some (⟨.exit id, ts, s⟩, ds, [])
    | .ret => some (⟨.ret, ts, s⟩, ds, [])
    | _ => none
  | .call g args s => match hk (.call g args s) with
    | some r => some (r, ds, [])
    | none => match P.funcs[g]? with
      | some fn => match fn.body with
        | some c => match ih g (.code c (args ++ List.replicate (fn.ntmps - args.length) undefA) ⟨⟨s.h.bs, s.h.len, none, []⟩, s.nx⟩) ds with
          | some (⟨e, ts, s'⟩, ds', q) => match e with
            | .exit _ => none
            | .goto _ => none
            | _ => match resultsA P ts s' fn.results.toList with
              | some vs => some (⟨.ret, [oneOrTuple vs], leave s s' (oneOrTuple vs)⟩, ds', q)
              | none => none
          | none => none
        | none => none
      | none => none)
end

section
variable {P : Program} {hk : Task → Option Res}
theorem runX_ok (hm : P.follows .mixedOrders = true) (hh : ∀ t r, hk t = some r → Sound P t r) : ∀ n, RTok P (runX P hk n)
  | 0 => by intro f t ds r ds' q h; simp [runX] at h
  | n + 1 => by
    intro f t ds r ds' q h hq
    have ih : ∀ f t ds r ds' q, runX P hk n f t ds = some (r, ds', q) → Qsts P q → Sound P t r := runX_ok hm hh n
    cases t with
    | code c ts s =>
      cases c with
      | region id ops draw =>
        have h' : (match (if draw then drawT P (runX P hk n) f id ops ts s ds else opsT P (runX P hk n) f id ops ops.toList 0 ts s ds) with
          | some (ts', s', ds', q) => some ((⟨.normal, ts', s'⟩ : Res), ds', q)
          | none => none) = some (r, ds', q) := h
        split at h'
        case h_2 => simp at h'
        rename_i ts1 s1 ds1 q1 h1
        simp only [Option.some.injEq, Prod.mk.injEq] at h'
        obtain ⟨rfl, rfl, rfl⟩ := h'
        exact regionT_sound hm ih h1 hq
      | seq a b =>
        have h' : (match runX P hk n f (.code a ts s) ds with
          | some (⟨.normal, ts', s'⟩, ds', q) => match runX P hk n f (.code b ts' s') ds' with
            | some (r, ds'', q') => some (r, ds'', q ++ q')
            | none => none
          | r => r) = some (r, ds', q) := h
        split at h'
        · rename_i ts1 s1 ds1 q1 h1
          split at h'
          case h_2 => simp at h'
          rename_i r2 ds2 q2 h2
          simp only [Option.some.injEq, Prod.mk.injEq] at h'
          obtain ⟨rfl, rfl, rfl⟩ := h'
          rw [qsts_app] at hq
          exact seq_next (ih _ _ _ _ _ _ h1 hq.1) (ih _ _ _ _ _ _ h2 hq.2)
        · rename_i hne
          refine seq_stop (ih _ _ _ _ _ _ h' hq) (fun e => ?_)
          obtain ⟨e', ts1, s1⟩ := r
          simp only at e
          subst e
          exact hne _ _ _ _ h'
      | cond c x y =>
        have h' : (match evA P ts c with
          | some (.bool true) => runX P hk n f (.code x ts s) ds
          | some (.bool false) => runX P hk n f (.code y ts s) ds
          | _ => none) = some (r, ds', q) := h
        split at h'
        · rename_i hc
          exact cond_true hc (ih _ _ _ _ _ _ h' hq)
        · rename_i hc
          exact cond_false hc (ih _ _ _ _ _ _ h' hq)
        · simp at h'
      | block id c =>
        have h' : (match runX P hk n f (.code c ts s) ds with
          | some (⟨.exit id', ts', s'⟩, ds', q) => if Nat.beq id' id then some ((⟨.normal, ts', s'⟩ : Res), ds', q) else some (⟨.exit id', ts', s'⟩, ds', q)
          | r => r) = some (r, ds', q) := h
        split at h'
        · rename_i id' ts1 s1 ds1 q1 h1
          split at h'
          · rename_i hid
            simp only [Option.some.injEq, Prod.mk.injEq] at h'
            obtain ⟨rfl, rfl, rfl⟩ := h'
            exact block_exit (ih _ _ _ _ _ _ h1 hq) (Nat.eq_of_beq_eq_true hid)
          · rename_i hid
            simp only [Option.some.injEq, Prod.mk.injEq] at h'
            obtain ⟨rfl, rfl, rfl⟩ := h'
            refine block_past (ih _ _ _ _ _ _ h1 hq) (fun e => ?_)
            simp only [AExit.exit.injEq] at e
            exact hid (by rw [e]; exact Nat.beq_refl _)
        · rename_i hne
          refine block_past (ih _ _ _ _ _ _ h' hq) (fun e => ?_)
          obtain ⟨e', ts1, s1⟩ := r
          simp only at e
          subst e
          exact hne _ _ _ _ _ h'
      | loop c =>
        have h' : (match (generalizing := false) ds with
          | .loop f' t :: rest => if Nat.beq f f' then some (t ts s, rest, [Qst.snd (.code (.loop c) ts s) (t ts s)]) else none
          | _ => match runX P hk n f (.code c ts s) ds with
            | some (⟨.normal, ts', s'⟩, ds', q) => match runX P hk n f (.code (.loop c) ts' s') ds' with
              | some (r, ds'', q') => some (r, ds'', q ++ q')
              | none => none
            | r => r) = some (r, ds', q) := h
        split at h'
        · split at h'
          · simp only [Option.some.injEq, Prod.mk.injEq] at h'
            obtain ⟨rfl, rfl, rfl⟩ := h'
            exact hq.1
          · cases h'
        split at h'
        · rename_i ts1 s1 ds1 q1 h1
          split at h'
          case h_2 => simp at h'
          rename_i r2 ds2 q2 h2
          simp only [Option.some.injEq, Prod.mk.injEq] at h'
          obtain ⟨rfl, rfl, rfl⟩ := h'
          rw [qsts_app] at hq
          exact loop_next (ih _ _ _ _ _ _ h1 hq.1) (ih _ _ _ _ _ _ h2 hq.2)
        · rename_i hne
          refine loop_stop (ih _ _ _ _ _ _ h' hq) (fun e => ?_)
          obtain ⟨e', ts1, s1⟩ := r
          simp only at e
          subst e
          exact hne _ _ _ _ h'
      | scope c =>
        have h' : (match runX P hk n f (.code c ts s) ds with
          | some (⟨.goto _, _, _⟩, _, _) => none
          | r => r) = some (r, ds', q) := h
        split at h'
        · simp at h'
        · exact scope_sound (ih _ _ _ _ _ _ h' hq)
      | skip =>
        have h' : some ((⟨.normal, ts, s⟩ : Res), ds, ([] : List Qst)) = some (r, ds', q) := h
        simp only [Option.some.injEq, Prod.mk.injEq] at h'
        obtain ⟨rfl, _⟩ := h'
        exact skip_sound
      | label l =>
        have h' : some ((⟨.normal, ts, s⟩ : Res), ds, ([] : List Qst)) = some (r, ds', q) := h
        simp only [Option.some.injEq, Prod.mk.injEq] at h'
        obtain ⟨rfl, _⟩ := h'
        exact label_sound
      | exit id =>
        have h' : some ((⟨.exit id, ts, s⟩ : Res), ds, ([] : List Qst)) = some (r, ds', q) := h
        simp only [Option.some.injEq, Prod.mk.injEq] at h'
        obtain ⟨rfl, _⟩ := h'
        exact exit_sound
      | ret =>
        have h' : some ((⟨.ret, ts, s⟩ : Res), ds, ([] : List Qst)) = some (r, ds', q) := h
        simp only [Option.some.injEq, Prod.mk.injEq] at h'
        obtain ⟨rfl, _⟩ := h'
        exact ret_sound
      | goto l => exact absurd (show (none : Option (Res × List Dec × List Qst)) = _ from h) (by simp)
      | rangeFunc => exact absurd (show (none : Option (Res × List Dec × List Qst)) = _ from h) (by simp)
      | refuse => exact absurd (show (none : Option (Res × List Dec × List Qst)) = _ from h) (by simp)
    | call g args s =>
      have h' : (match hk (.call g args s) with
        | some r => some (r, ds, [])
        | none => match P.funcs[g]? with
          | some fn => match fn.body with
            | some c => match runX P hk n g (.code c (args ++ List.replicate (fn.ntmps - args.length) undefA) ⟨⟨s.h.bs, s.h.len, none, []⟩, s.nx⟩) ds with
              | some (⟨e, ts, s'⟩, ds', q) => match e with
                | .exit _ => none
                | .goto _ => none
                | _ => match resultsA P ts s' fn.results.toList with
                  | some vs => some ((⟨.ret, [oneOrTuple vs], leave s s' (oneOrTuple vs)⟩ : Res), ds', q)
                  | none => none
              | none => none
            | none => none
          | none => none) = some (r, ds', q) := h
      split at h'
      · rename_i r0 hr0
        simp only [Option.some.injEq, Prod.mk.injEq] at h'
        obtain ⟨rfl, _⟩ := h'
        exact hh _ _ hr0
      split at h'
      case h_2 => simp at h'
      rename_i fn hf
      split at h'
      case h_2 => simp at h'
      rename_i c hb
      split at h'
      case h_2 => simp at h'
      rename_i e ts s' ds1 q1 hc
      have main : (e = .normal ∨ e = .ret) → (match resultsA P ts s' fn.results.toList with
                | some vs => some ((⟨.ret, [oneOrTuple vs], leave s s' (oneOrTuple vs)⟩ : Res), ds1, q1)
                | none => none) = some (r, ds', q) → Sound P (.call g args s) r := by
        intro he h
        split at h
        case h_2 => simp at h
        rename_i vs hvs
        simp only [Option.some.injEq, Prod.mk.injEq] at h
        obtain ⟨rfl, rfl, rfl⟩ := h
        exact call_sound hf hb (ih _ _ _ _ _ _ hc hq) he hvs
      cases e with
      | normal => exact main (.inl rfl) h'
      | ret => exact main (.inr rfl) h'
      | exit id => simp at h'
      | goto l => simp at h'

/-- A run with decisions, all of them used. -/
theorem runX_sound (hm : P.follows .mixedOrders = true) (hh : ∀ t r, hk t = some r → Sound P t r) {n f : Nat} {t : Task} {ds ds' : List Dec} {r : Res} {q : List Qst} (h : runX P hk n f t ds = some (r, ds', q)) (hq : Qsts P q) : Sound P t r :=
  runX_ok hm hh n f t ds r ds' q h hq
end
end Go.Mini

namespace Go.Mini
open Go Go.RowKit

/-! ### names of blocks -/
mutual
def AV.ren (π : Nat → Nat) : AV → AV
  | .bool b => .bool b
  | .int k n => .int k n
  | .str s => .str s
  | .nilPtr => .nilPtr
  | .ptr b o => .ptr (π b) o
  | .nilSlice => .nilSlice
  | .slice b o n c => .slice (π b) o n c
  | .osl b o n e => .osl (π b) o n e
  | .nilMap => .nilMap
  | .map b => .map (π b)
  | .func fn fs cs => .func fn (rens π fs) (rens π cs)
  | .nilFunc => .nilFunc
  | .iface t v => .iface t (v.ren π)
  | .nilIface => .nilIface
  | .agg cs => .agg (rens π cs)
  | .tuple cs => .tuple (rens π cs)
  termination_by structural x => x
def rens (π : Nat → Nat) : List AV → List AV
  | [] => []
  | a :: as => a.ren π :: rens π as
  termination_by structural x => x
end
mutual
/-- All names pass. -/
def AV.names (p : Nat → Bool) : AV → Bool
  | .ptr b _ => p b
  | .slice b _ _ _ => p b
  | .osl b _ _ _ => p b
  | .map b => p b
  | .func _ fs cs => namess p fs && namess p cs
  | .iface _ v => v.names p
  | .agg cs => namess p cs
  | .tuple cs => namess p cs
  | _ => true
  termination_by structural x => x
def namess (p : Nat → Bool) : List AV → Bool
  | [] => true
  | a :: as => a.names p && namess p as
  termination_by structural x => x
end
def renE (π : Nat → Nat) : List (AV × AV) → List (AV × AV)
  | [] => []
  | (k, v) :: l => (k.ren π, v.ren π) :: renE π l
def namesE (p : Nat → Bool) : List (AV × AV) → Bool
  | [] => true
  | (k, v) :: l => k.names p && v.names p && namesE p l
def AObj.ren (π : Nat → Nat) : AObj → AObj
  | .cells ro cs => .cells ro (rens π cs)
  | .map es bn ck => .map (renE π es) bn ck
  | .dead => .dead
def AObj.names (p : Nat → Bool) : AObj → Bool
  | .cells _ cs => namess p cs
  | .map es _ _ => namesE p es
  | .dead => true

section
variable {π : Nat → Nat} {p : Nat → Bool} {ρ ρ' : Ren}

theorem rens_length {π : Nat → Nat} : ∀ {l : List AV}, (rens π l).length = l.length
  | [] => rfl
  | a :: l => by simp only [rens, List.length_cons, rens_length (l := l)]
mutual
theorem VRel.re (h : ∀ b L, p b = true → ρ b = some L → ρ' (π b) = some L) : ∀ {a : AV} {v : Value}, a.names p = true → VRel ρ a v → VRel ρ' (a.ren π) v
  | .bool _, _, _, hv => by simpa [AV.ren] using hv
  | .int _ _, _, _, hv => by simpa [AV.ren] using hv
  | .str _, _, _, hv => by simpa [AV.ren] using hv
  | .nilPtr, _, _, hv => by simpa [AV.ren] using hv
  | .ptr _ _, _, hp, hv => by
    rw [vrel_ptr] at hv
    obtain ⟨L, h1, h2⟩ := hv
    simp only [AV.ren, vrel_ptr]
    exact ⟨L, h _ _ hp h1, h2⟩
  | .nilSlice, _, _, hv => by simpa [AV.ren] using hv
  | .slice _ _ _ _, _, hp, hv => by
    rw [vrel_slice] at hv
    obtain ⟨a, h1, h2, h3⟩ := hv
    simp only [AV.ren, vrel_slice]
    exact ⟨a, h1, h2, fun hc => let ⟨L, e1, e2⟩ := h3 hc; ⟨L, h _ _ hp e1, e2⟩⟩
  | .osl _ _ _ _, _, hp, hv => by
    rw [vrel_osl] at hv
    obtain ⟨L, x, k, h1, h2⟩ := hv
    simp only [AV.ren, vrel_osl]
    exact ⟨L, x, k, h _ _ hp h1, h2⟩
  | .nilMap, _, _, hv => by simpa [AV.ren] using hv
  | .map _, _, hp, hv => by
    rw [vrel_map] at hv
    obtain ⟨L, h1, h2⟩ := hv
    simp only [AV.ren, vrel_map]
    exact ⟨L, h _ _ hp h1, h2⟩
  | .func _ fs cs, _, hp, hv => by
    simp only [AV.names, Bool.and_eq_true] at hp
    rw [vrel_func] at hv
    obtain ⟨vs, ws, h1, h2, h3⟩ := hv
    simp only [AV.ren, vrel_func]
    exact ⟨vs, ws, h1, VRels.re h hp.1 h2, VRels.re h hp.2 h3⟩
  | .nilFunc, _, _, hv => by simpa [AV.ren] using hv
  | .iface _ x, _, hp, hv => by
    rw [vrel_iface] at hv
    obtain ⟨y, h1, h2⟩ := hv
    simp only [AV.ren, vrel_iface]
    exact ⟨y, h1, VRel.re h (by simpa [AV.names] using hp) h2⟩
  | .nilIface, _, _, hv => by simpa [AV.ren] using hv
  | .agg cs, _, hp, hv => by
    rw [vrel_agg] at hv
    obtain ⟨ws, h1, h2⟩ := hv
    simp only [AV.ren, vrel_agg]
    exact ⟨ws, h1, VRels.re h (by simpa [AV.names] using hp) h2⟩
  | .tuple cs, _, hp, hv => by
    rw [vrel_tuple] at hv
    simp only [AV.ren, vrel_tuple]
    rcases hv with ⟨hl, hv⟩ | ⟨ws, h1, h2⟩
    · exact .inl ⟨by rw [rens_length]; exact hl, hv⟩
    · exact .inr ⟨ws, h1, VRels.re h (by simpa [AV.names] using hp) h2⟩
theorem VRels.re (h : ∀ b L, p b = true → ρ b = some L → ρ' (π b) = some L) : ∀ {as : List AV} {vs : List Value}, namess p as = true → VRels ρ as vs → VRels ρ' (rens π as) vs
  | [], _, _, hv => by simpa [rens] using hv
  | a :: as, _, hp, hv => by
    simp only [namess, Bool.and_eq_true] at hp
    rw [vrels_cons] at hv
    obtain ⟨w, ws, h1, h2, h3⟩ := hv
    simp only [rens, vrels_cons]
    exact ⟨w, ws, h1, VRel.re h hp.1 h2, VRels.re h hp.2 h3⟩
end
theorem ERel.re (h : ∀ b L, p b = true → ρ b = some L → ρ' (π b) = some L) : ∀ {es : List (AV × AV)} {l : List MapEntry}, namesE p es = true → ERel ρ es l → ERel ρ' (renE π es) l
  | [], _, _, he => he
  | (k, v) :: es, l, hp, he => by
    simp only [namesE, Bool.and_eq_true] at hp
    obtain ⟨e, r, h1, h2, h3, h4⟩ := he
    exact ⟨e, r, h1, h2.re h hp.1.1, h3.re h hp.1.2, ERel.re h hp.2 h4⟩
theorem OO.re (h : ∀ b L, p b = true → ρ b = some L → ρ' (π b) = some L) {o : AObj} {L : Loc} {c : Obj} (hp : o.names p = true) (ho : OO ρ o L c) : OO ρ' (o.ren π) L c := by
  cases o with
  | cells ro cs =>
    obtain ⟨arr, e, fz, h1, h2, h3, vs, h4, h5⟩ := ho
    exact ⟨arr, e, fz, h1, h2, h3, vs, h4.re h hp, h5⟩
  | map es =>
    obtain ⟨ents, h1, h2, h3⟩ := ho
    exact ⟨ents, h1, h2.re h hp, h3⟩
  | dead => trivial
mutual
/-- The other way. -/
theorem VRel.back (h : ∀ b L, p b = true → ρ' (π b) = some L → ρ b = some L) : ∀ {a : AV} {v : Value}, a.names p = true → VRel ρ' (a.ren π) v → VRel ρ a v
  | .bool _, _, _, hv => by simpa [AV.ren] using hv
  | .int _ _, _, _, hv => by simpa [AV.ren] using hv
  | .str _, _, _, hv => by simpa [AV.ren] using hv
  | .nilPtr, _, _, hv => by simpa [AV.ren] using hv
  | .ptr _ _, _, hp, hv => by
    simp only [AV.ren, vrel_ptr] at hv
    obtain ⟨L, h1, h2⟩ := hv
    rw [vrel_ptr]
    exact ⟨L, h _ _ hp h1, h2⟩
  | .nilSlice, _, _, hv => by simpa [AV.ren] using hv
  | .slice _ _ _ _, _, hp, hv => by
    simp only [AV.ren, vrel_slice] at hv
    obtain ⟨a, h1, h2, h3⟩ := hv
    rw [vrel_slice]
    exact ⟨a, h1, h2, fun hc => let ⟨L, e1, e2⟩ := h3 hc; ⟨L, h _ _ hp e1, e2⟩⟩
  | .osl _ _ _ _, _, hp, hv => by
    simp only [AV.ren, vrel_osl] at hv
    obtain ⟨L, x, k, h1, h2⟩ := hv
    rw [vrel_osl]
    exact ⟨L, x, k, h _ _ hp h1, h2⟩
  | .nilMap, _, _, hv => by simpa [AV.ren] using hv
  | .map _, _, hp, hv => by
    simp only [AV.ren, vrel_map] at hv
    obtain ⟨L, h1, h2⟩ := hv
    rw [vrel_map]
    exact ⟨L, h _ _ hp h1, h2⟩
  | .func _ fs cs, _, hp, hv => by
    simp only [AV.names, Bool.and_eq_true] at hp
    simp only [AV.ren, vrel_func] at hv
    obtain ⟨vs, ws, h1, h2, h3⟩ := hv
    rw [vrel_func]
    exact ⟨vs, ws, h1, VRels.back h hp.1 h2, VRels.back h hp.2 h3⟩
  | .nilFunc, _, _, hv => by simpa [AV.ren] using hv
  | .iface _ x, _, hp, hv => by
    simp only [AV.ren, vrel_iface] at hv
    obtain ⟨y, h1, h2⟩ := hv
    rw [vrel_iface]
    exact ⟨y, h1, VRel.back h (by simpa [AV.names] using hp) h2⟩
  | .nilIface, _, _, hv => by simpa [AV.ren] using hv
  | .agg cs, _, hp, hv => by
    simp only [AV.ren, vrel_agg] at hv
    obtain ⟨ws, h1, h2⟩ := hv
    rw [vrel_agg]
    exact ⟨ws, h1, VRels.back h (by simpa [AV.names] using hp) h2⟩
  | .tuple cs, _, hp, hv => by
    simp only [AV.ren, vrel_tuple] at hv
    rw [vrel_tuple]
    rcases hv with ⟨hl, hc⟩ | ⟨ws, h1, h2⟩
    · exact .inl ⟨by rw [rens_length] at hl; exact hl, hc⟩
    · exact .inr ⟨ws, h1, VRels.back h (by simpa [AV.names] using hp) h2⟩
theorem VRels.back (h : ∀ b L, p b = true → ρ' (π b) = some L → ρ b = some L) : ∀ {as : List AV} {vs : List Value}, namess p as = true → VRels ρ' (rens π as) vs → VRels ρ as vs
  | [], _, _, hv => by simpa [rens] using hv
  | a :: as, _, hp, hv => by
    simp only [namess, Bool.and_eq_true] at hp
    simp only [rens, vrels_cons] at hv
    obtain ⟨w, ws, h1, h2, h3⟩ := hv
    rw [vrels_cons]
    exact ⟨w, ws, h1, VRel.back h hp.1 h2, VRels.back h hp.2 h3⟩
end
end

section
variable {P : Program} {B : Base} {ρ : Ren} {s : AS} {w w' : World}

/-- All that there is, is kept. -/
def allKept (w : World) : Base := ⟨w, fun k => k < w.heap.size, fun _ h => h⟩

theorem Rel.grown (R : Rel P B ρ s w) (h : Kept (fun k => k < w.heap.size) w w') : Rel P B ρ s w' :=
  ⟨R.below.trans ⟨h.os, h.tape, h.output, h.size, fun k hk => h.block k (R.K_lt k hk)⟩, R.glob, R.fresh, R.keys, fun b L hb => Nat.lt_of_lt_of_le (R.lt b L hb) h.size,
    fun b o L hb hL => let ⟨c, h1, h2⟩ := R.obj b o L hb hL; ⟨c, by rw [h.block _ (R.lt b L hL)]; exact h1, h2⟩, R.own, R.ros, R.inj⟩
theorem Post.grown (R : Rel P B ρ s w) (h : Kept (fun k => k < w.heap.size) w w') : Post P B ρ s w ρ s w' := ⟨R.grown h, fun _ _ => rfl, fun _ _ _ => rfl, .refl s, h.size⟩

/-- A call that is known where nothing of the caller's may turn is known wherever the same can be read: its result is told by old names alone. -/
theorem Sound.frame {f : FuncId} {args : List AV} {s0 : AS} {e : AExit} {v : AV} {s1 : AS} (h : Sound P (.call f args s0) ⟨e, [v], s1⟩) (π : Nat → Nat) (s : AS)
    (hg : ∀ g, g < P.globals.size → g < s0.nx ∧ π g = g) (hkeys : ∀ k ∈ s0.h.bs.map (·.1), k < s0.nx)
    (hobj : ∀ b o, s0.get b = some o → ∃ cs ro, o = .cells true cs ∧ namess (fun b => Nat.blt b s0.nx) cs = true ∧ s.get (π b) = some (.cells ro (rens π cs)))
    (ha : namess (fun b => Nat.blt b s0.nx) args = true) (hv : v.names (fun b => Nat.blt b s0.nx) = true) (e' : AExit) :
    Sound P (.call f (rens π args) s) ⟨e', [v.ren π], s⟩ := by
  intro B ρ cargs w R hc
  have lt : ∀ {b : Nat}, Nat.blt b s0.nx = true → b < s0.nx := fun h => by simpa using h
  have R0 : Rel P (allKept w) (fun b => if b < s0.nx then ρ (π b) else none) s0 w := by
    have inv : ∀ {b L}, (if b < s0.nx then ρ (π b) else none) = some L → b < s0.nx ∧ ρ (π b) = some L := by
      intro b L h
      split at h
      · rename_i hb
        exact ⟨hb, h⟩
      · cases h
    refine ⟨.refl _ _, fun g hg' => ?_, fun b hb => if_neg (by omega), hkeys, fun b L hb => R.lt _ L (inv hb).2, fun b o L hb hL => ?_, fun b o L hb hr _ => ?_, fun b cs L _ hL => R.lt _ L (inv hL).2, fun b b' o o' L L' hb _ hr => ?_⟩
    · obtain ⟨h1, h2⟩ := hg g hg'
      rw [if_pos h1, h2]
      exact R.glob g hg'
    · obtain ⟨cs, ro, rfl, hn, hs⟩ := hobj b o hb
      obtain ⟨c, hc1, arr, el, fz, rfl, h2, _, vs, h4, h5⟩ := R.obj _ _ _ hs (inv hL).2
      refine ⟨_, hc1, arr, el, fz, rfl, h2, by simp, vs, ?_, h5⟩
      exact VRels.back (p := fun b => Nat.blt b s0.nx) (ρ' := ρ) (fun b L hb hL => by rw [if_pos (lt hb)]; exact hL) hn h4
    · obtain ⟨cs, ro, rfl, _⟩ := hobj b o hb
      simp [AObj.rw] at hr
    · obtain ⟨cs, ro, rfl, _⟩ := hobj b o hb
      simp [AObj.rw] at hr
  have hargs : VRels (fun b => if b < s0.nx then ρ (π b) else none) args cargs :=
    VRels.back (p := fun b => Nat.blt b s0.nx) (ρ' := ρ) (fun b L hb hL => by rw [if_pos (lt hb)]; exact hL) ha hc
  refine Calls.mono (h (allKept w) _ cargs w R0 hargs) fun en w' hr => ?_
  obtain ⟨v', u, ρ', e1, e2, e3, e4⟩ := hr
  simp only [List.cons.injEq, and_true] at e1
  subst e1
  refine ⟨_, u, ρ, rfl, e2, ?_, Post.grown R e4.rel.below⟩
  refine VRel.re (p := fun b => Nat.blt b s0.nx) (fun b L hb hL => ?_) hv e3
  rw [e4.ext b (lt hb), if_pos (lt hb)] at hL
  exact hL
end
end Go.Mini

namespace Go.Mini
open Go Go.RowKit

/-! ### what a call is handed, as values of ours -/
inductive Kc where
  | bool
  | int (k : IntKind)
  | str
  | sl (es : List Kc)

inductive SD where
  | b (x : Bool)
  | i (k : IntKind) (n : Int)
  | s (x : ByteArray)
  | nil
  | sl (rows : List (List SD)) (len : Nat)

mutual
def Ty : SD → Kc → Prop
  | .b _, .bool => True
  | .i k n, .int k' => k = k' ∧ (Lit.int k n).wf = true
  | .s x, .str => x.size ≤ maxLen
  | .nil, .sl _ => True
  | .sl rows len, .sl es => len ≤ rows.length ∧ rows.length ≤ maxLen ∧ Tyss rows es
  | _, _ => False
  termination_by structural x => x
def Tys : List SD → List Kc → Prop
  | [], [] => True
  | x :: xs, k :: ks => Ty x k ∧ Tys xs ks
  | _, _ => False
  termination_by structural x => x
def Tyss : List (List SD) → List Kc → Prop
  | [], _ => True
  | r :: rs, ks => Tys r ks ∧ Tyss rs ks
  termination_by structural x => x
end

mutual
def absC : SD → AS → AV × AS
  | .b x, s => (.bool x, s)
  | .i k n, s => (.int k n, s)
  | .s x, s => (.str x, s)
  | .nil, s => (.nilSlice, s)
  | .sl rows len, s => (.slice (absRows rows s).2.nx 0 len rows.length, (absRows rows s).2.push (.cells true (absRows rows s).1))
  termination_by structural x => x
def absCs : List SD → AS → List AV × AS
  | [], s => ([], s)
  | x :: xs, s => ((absC x s).1 :: (absCs xs (absC x s).2).1, (absCs xs (absC x s).2).2)
  termination_by structural x => x
def absRows : List (List SD) → AS → List AV × AS
  | [], s => ([], s)
  | r :: rs, s => ((absCs r s).1 ++ (absRows rs (absCs r s).2).1, (absRows rs (absCs r s).2).2)
  termination_by structural x => x
end

def kcsF (P : Program) (rec : TypeId → Option (List Kc)) : List Field → Nat → Option (List Kc)
  | [], _ => some []
  | f :: fs, off => match rec f.type with
    | some l => if Nat.beq f.offset off && Nat.beq l.length (P.cellsOf f.type) then (match kcsF P rec fs (off + l.length) with
        | some r => some (l ++ r)
        | none => none) else none
    | none => none
/-- A type's cells. -/
def kcs (P : Program) : Nat → TypeId → Option (List Kc)
  | 0, _ => none
  | n + 1, t => match P.underlying t with
    | some .bool => some [.bool]
    | some (.int k) => some [.int k]
    | some .string => some [.str]
    | some (.slice e) => match kcs P n e with
      | some l => if Nat.beq l.length (P.cellsOf e) && !l.isEmpty then some [.sl l] else none
      | none => none
    | some (.struct fs) => match kcsF P (kcs P n) fs.toList 0 with
      | some l => if Nat.beq l.length (P.cellsOf t) then some l else none
      | none => none
    | some (.array m e) => match kcs P n e with
      | some l => if Nat.beq l.length (P.cellsOf e) && Nat.beq (m * l.length) (P.cellsOf t) then some (List.flatten (List.replicate m l)) else none
      | none => none
    | _ => none

section
variable {P : Program} {B : Base} {ρ : Ren} {s : AS} {w W : World}

theorem Rel.pushRO (R : Rel P B ρ s w) {cs : List AV} {L : Loc} (hK : B.K L.c) (ho : OM ρ (.cells true cs) L w) : Rel P B (upd ρ s.nx L) (s.push (.cells true cs)) w := by
  have hf : ρ s.nx = none := R.fresh _ (Nat.le_refl _)
  have hmono := upd_mono (L := L) hf
  have hne : ∀ {b q}, s.get b = some q → b ≠ s.nx := fun h e => by have := R.key_lt h; omega
  have old : ∀ {b q L'}, (s.push (.cells true cs)).get b = some q → upd ρ s.nx L b = some L' → (b = s.nx ∧ q = .cells true cs ∧ L' = L) ∨ (s.get b = some q ∧ ρ b = some L') := by
    intro b q L' h hL
    rw [AS.get_push] at h
    split at h
    · rename_i e
      subst e
      rw [upd_same] at hL
      simp only [Option.some.injEq] at h hL
      exact .inl ⟨rfl, h.symm, hL.symm⟩
    · rw [upd_other _ _ _ (hne h)] at hL
      exact .inr ⟨h, hL⟩
  refine ⟨R.below, ?_, ?_, ?_, ?_, ?_, ?_, ?_, ?_⟩
  · intro g hg
    obtain ⟨M, h1, h2⟩ := R.glob g hg
    exact ⟨M, hmono _ _ h1, h2⟩
  · intro b hb
    simp only [AS.nx_push] at hb
    rw [upd_other _ _ _ (by omega)]
    exact R.fresh b (by omega)
  · intro k hk
    have hk' : k ∈ keysOf (s.push (.cells true cs)) := hk
    rw [AS.keys_push] at hk'
    simp only [AS.nx_push]
    rcases List.mem_cons.1 hk' with h | h
    · omega
    · have := R.keys k h; omega
  · intro b M h
    by_cases hb : b = s.nx
    · subst hb
      rw [upd_same] at h
      simp only [Option.some.injEq] at h
      subst h
      exact R.K_lt _ hK
    · rw [upd_other _ _ _ hb] at h
      exact R.lt b M h
  · intro b q M h hM
    rcases old h hM with ⟨_, rfl, rfl⟩ | ⟨h1, h2⟩
    · obtain ⟨c, k1, k2⟩ := ho
      exact ⟨c, k1, k2.mono hmono⟩
    · obtain ⟨c, k1, k2⟩ := R.obj b q M h1 h2
      exact ⟨c, k1, k2.mono hmono⟩
  · intro b q M h hr hM
    rcases old h hM with ⟨_, rfl, rfl⟩ | ⟨h1, h2⟩
    · simp [AObj.rw] at hr
    · exact R.own b q M h1 hr h2
  · intro b q M h hM
    rcases old h hM with ⟨_, _, rfl⟩ | ⟨h1, h2⟩
    · exact hK
    · exact R.ros b q M h1 h2
  · intro x y q q' Lx Ly h1 h2 h3 h4 h5 h6 h7
    rcases old h1 h5 with ⟨_, rfl, _⟩ | ⟨a1, a2⟩
    · simp [AObj.rw] at h3
    · rcases old h2 h6 with ⟨_, rfl, _⟩ | ⟨b1, b2⟩
      · simp [AObj.rw] at h4
      · exact R.inj x y q q' Lx Ly a1 b1 h3 h4 a2 b2 h7

/-- Cells that stand for what is handed. -/
def Opens (P : Program) (W : World) (f : AS → List AV × AS) (cs : List Value) : Prop :=
  ∀ (ρ : Ren) (s : AS), Rel P (allKept W) ρ s W → s.nx ≤ (f s).2.nx ∧ ∃ ρ', Rel P (allKept W) ρ' (f s).2 W ∧ (∀ b, b < s.nx → ρ' b = ρ b) ∧ VRels ρ' (f s).1 cs

theorem Opens.flat {as : List AV} {cs : List Value} (h : ∀ ρ, VRels ρ as cs) : Opens P W (fun s => (as, s)) cs :=
  fun ρ _ R => ⟨Nat.le_refl _, ρ, R, fun _ _ => rfl, h ρ⟩

theorem ext_mono {ρ' : Ren} {n : Nat} (hf : ∀ b, n ≤ b → ρ b = none) (he : ∀ b, b < n → ρ' b = ρ b) : ∀ b L, ρ b = some L → ρ' b = some L := by
  intro b L hb
  rcases Nat.lt_or_ge b n with h | h
  · rw [he b h, hb]
  · rw [hf b h] at hb; cases hb

theorem Opens.append {f g : AS → List AV × AS} {cs ds : List Value} (hf : Opens P W f cs) (hg : Opens P W g ds) : Opens P W (fun s => ((f s).1 ++ (g (f s).2).1, (g (f s).2).2)) (cs ++ ds) := by
  intro ρ s R
  obtain ⟨n1, ρ1, R1, e1, v1⟩ := hf ρ s R
  obtain ⟨n2, ρ2, R2, e2, v2⟩ := hg ρ1 _ R1
  exact ⟨Nat.le_trans n1 n2, ρ2, R2, fun b hb => by rw [e2 b (Nat.lt_of_lt_of_le hb n1), e1 b hb], (v1.mono (ext_mono R1.fresh e2)).append v2⟩

theorem absCs_append : ∀ (xs ys : List SD) (s : AS), absCs (xs ++ ys) s = ((absCs xs s).1 ++ (absCs ys (absCs xs s).2).1, (absCs ys (absCs xs s).2).2)
  | [], ys, s => by simp [absCs]
  | x :: xs, ys, s => by
    have ih := absCs_append xs ys (absC x s).2
    simp only [List.cons_append, absCs, ih]

/-- A row of rows. -/
theorem Opens.slice {rows : List (List SD)} {len : Nat} {a : Addr} {css : List Value} (hr : Opens P W (absRows rows) css) (hlen : len ≤ rows.length) (hp : rows.length ≠ 0 → css ≠ []) (hc : ∀ i v, css[i]? = some v → W.cell? (a.add i) = some v) :
    Opens P W (fun s => ([.slice (absRows rows s).2.nx 0 len rows.length], (absRows rows s).2.push (.cells true (absRows rows s).1))) [.slice (some a) len rows.length] := by
  intro ρ s R
  obtain ⟨n1, ρ1, R1, e1, v1⟩ := hr ρ s R
  refine ⟨Nat.le_succ_of_le n1, ?_⟩
  by_cases h0 : rows.length = 0
  · refine ⟨ρ1, R1.pushNone _, e1, ?_⟩
    simp only [vrels_cons, vrels_nil, vrel_slice]
    exact ⟨_, _, rfl, ⟨a, rfl, hlen, fun h => absurd h0 h⟩, rfl⟩
  · have hne := hp h0
    obtain ⟨v0, l0, hv0⟩ : ∃ v0 l0, css = v0 :: l0 := by
      cases css with
      | nil => exact absurd rfl hne
      | cons v l => exact ⟨v, l, rfl⟩
    have hc0 := hc 0 v0 (by rw [hv0]; rfl)
    have ha0 : a.add 0 = a := by simp [Addr.add]
    rw [ha0] at hc0
    have hsp := World.cell?_spot hc0
    obtain ⟨bl, off, sp⟩ := a
    simp only at hsp
    subst hsp
    have hcell : ∃ arr e fz, W.heap[bl]? = some (.cells arr e fz) := by
      unfold World.cell? at hc0
      split at hc0
      · rename_i c _ _ hh
        exact ⟨_, _, _, hh⟩
      · cases hc0
    obtain ⟨arr, e, fz, hh⟩ := hcell
    have hlt : bl < W.heap.size := (Array.getElem?_eq_some_iff.1 hh).1
    refine ⟨upd ρ1 (absRows rows s).2.nx ⟨bl, off, arr.size⟩, R1.pushRO (L := ⟨bl, off, arr.size⟩) hlt ⟨_, hh, arr, e, fz, rfl, rfl, by simp, css, v1, fun i v hi => ?_⟩, fun b hb => ?_, ?_⟩
    · have := hc i v hi
      rw [Go.WideShapes.add_plain] at this
      simpa [World.cell?, hh] using this
    · rw [upd_other _ _ _ (by omega)]
      exact e1 b hb
    · simp only [vrels_cons, vrels_nil, vrel_slice]
      exact ⟨_, _, rfl, ⟨_, rfl, hlen, fun _ => ⟨_, upd_same _ _ _, rfl⟩⟩, rfl⟩

variable {H : Type} {enc : TypeId × Value → H} {held : Bool}

mutual
/-- A reading's numbers, where it has no address. -/
def litsD : DataW H → Option (List SD)
  | .lit (.bool x) => some [.b x]
  | .lit (.int k n) => some [.i k n]
  | .agg parts => litsDs parts
  | _ => none
def litsDs : List (DataW H) → Option (List SD)
  | [] => some []
  | d :: ds => match litsD d, litsDs ds with
    | some a, some b => some (a ++ b)
    | _, _ => none
end

theorem tys_append : ∀ {xs : List SD} {ks : List Kc} {ys : List SD} {ls : List Kc}, Tys xs ks → Tys ys ls → Tys (xs ++ ys) (ks ++ ls)
  | [], [], _, _, _, h => h
  | _ :: _, _ :: _, _, _, h, h' => ⟨h.1, tys_append h.2 h'⟩
  | [], _ :: _, _, _, h, _ => h.elim
  | _ :: _, [], _, _, h, _ => h.elim
theorem tys_length : ∀ {xs : List SD} {ks : List Kc}, Tys xs ks → xs.length = ks.length
  | [], [], _ => rfl
  | _ :: _, _ :: _, h => by simp [tys_length h.2]
  | [], _ :: _, h => h.elim
  | _ :: _, [], h => h.elim

def flatA : List SD → List AV
  | [] => []
  | .b x :: l => .bool x :: flatA l
  | .i k n :: l => .int k n :: flatA l
  | _ :: l => undefA :: flatA l
theorem flatA_append : ∀ (a b : List SD), flatA (a ++ b) = flatA a ++ flatA b
  | [], _ => rfl
  | .b x :: l, b => by simp [flatA, flatA_append l b]
  | .i k n :: l, b => by simp [flatA, flatA_append l b]
  | .s x :: l, b => by simp [flatA, flatA_append l b]
  | .nil :: l, b => by simp [flatA, flatA_append l b]
  | .sl r n :: l, b => by simp [flatA, flatA_append l b]

/-- What a reading of cells gives. -/
structure Got (P : Program) (W : World) (ks : List Kc) (d : DataW H) (cs : List Value) : Prop where
  out : ∃ sds, Tys sds ks ∧ Opens P W (absCs sds) cs ∧ ∀ l, litsD d = some l → sds = l ∧ ∀ ρ, VRels ρ (flatA l) cs
  len : cs.length = ks.length

theorem add_add (a : Addr) (m i : Nat) : (a.add m).add i = a.add (m + i) := by
  unfold Addr.add
  by_cases h1 : m = 0
  · subst h1; simp
  · by_cases h2 : i = 0
    · subst h2; simp
    · simp [h1, h2, Nat.add_assoc]
theorem split_at (cs : List Value) (off n : Nat) : (cs.drop off).take n ++ cs.drop (off + n) = cs.drop off := by
  rw [← List.drop_drop]
  exact List.take_append_drop n (cs.drop off)

theorem rows_open {es : List Kc} {css : List (List Value)} : ∀ {ds : List (DataW H)}, ds.length = css.length → (∀ (i : Nat) d cs, ds[i]? = some d → css[i]? = some cs → Got P W es d cs) →
    ∃ rows, rows.length = css.length ∧ Tyss rows es ∧ Opens P W (absRows rows) css.flatten := by
  induction css with
  | nil =>
    intro ds _ _
    exact ⟨[], rfl, trivial, by simpa [absRows] using Opens.flat (P := P) (W := W) (as := []) (cs := []) (fun _ => by simp)⟩
  | cons cs css ih =>
    intro ds hl h
    cases ds with
    | nil => simp at hl
    | cons d ds =>
      obtain ⟨rows, h1, h2, h3⟩ := ih (ds := ds) (by simpa using hl) (fun i d' cs' a b => h (i + 1) d' cs' (by simpa using a) (by simpa using b))
      obtain ⟨⟨sds, k1, k2, _⟩, _⟩ := h 0 d cs rfl rfl
      refine ⟨sds :: rows, by simp [h1], ⟨k1, h2⟩, ?_⟩
      have := k2.append h3
      simpa [absRows] using this

/-- Parts, side by side. -/
theorem parts_open : ∀ {ks : List (List Kc)} {ds : List (DataW H)} {css : List (List Value)}, ks.length = css.length → ds.length = css.length → (∀ (i : Nat) k d cs, ks[i]? = some k → ds[i]? = some d → css[i]? = some cs → Got P W k d cs) →
    Got P W ks.flatten (.agg ds) css.flatten
  | [], [], [], _, _, _ => ⟨⟨[], trivial, by simpa [absCs] using Opens.flat (P := P) (W := W) (as := []) (cs := []) (fun _ => by simp), fun l h => by simp [litsD, litsDs] at h; subst h; exact ⟨rfl, fun ρ => by simp [flatA]⟩⟩, rfl⟩
  | k :: ks, d :: ds, cs :: css, hk, hd, h => by
    obtain ⟨⟨sds, a1, a2, a3⟩, a4⟩ := h 0 k d cs rfl rfl rfl
    obtain ⟨⟨sds', b1, b2, b3⟩, b4⟩ := parts_open (ks := ks) (ds := ds) (css := css) (by simpa using hk) (by simpa using hd) (fun i k' d' cs' x y z => h (i + 1) k' d' cs' (by simpa using x) (by simpa using y) (by simpa using z))
    refine ⟨⟨sds ++ sds', by simpa using tys_append a1 b1, ?_, fun l hl => ?_⟩, by simp only [List.flatten_cons, List.length_append, a4, b4]⟩
    · have := a2.append b2
      simpa [absCs_append, Opens] using this
    · simp only [litsD, litsDs] at hl
      split at hl
      · rename_i x y hx hy
        simp only [Option.some.injEq] at hl
        obtain ⟨p1, p2⟩ := a3 x hx
        obtain ⟨q1, q2⟩ := b3 y (by simpa [litsD] using hy)
        subst hl
        refine ⟨by rw [p1, q1], fun ρ => ?_⟩
        rw [flatA_append]
        simpa using (p2 ρ).append (q2 ρ)
      · simp at hl
  | [], _ :: _, [], _, h, _ => by simp at h
  | [], _, _ :: _, h, _, _ => by simp at h
  | _ :: _, _, [], h, _, _ => by simp at h
  | _ :: _, [], _ :: _, _, h, _ => by simp at h

theorem fields_go {n : Nat} : ∀ {fs : List Field} {off : Nat} {ks : List Kc}, kcsF P (kcs P n) fs off = some ks → ∃ kss : List (List Kc), ks = kss.flatten ∧ kss.length = fs.length ∧
    (∀ (i : Nat) f, fs[i]? = some f → ∃ k, kss[i]? = some k ∧ kcs P n f.type = some k ∧ k.length = P.cellsOf f.type) ∧
    ∀ (cs : List Value), cs.length = off + ks.length → cs.drop off = ((fs.map fun f => (cs.drop f.offset).take (P.cellsOf f.type))).flatten
  | [], off, ks, h => by
    simp only [kcsF, Option.some.injEq] at h
    subst h
    exact ⟨[], rfl, rfl, fun i f hf => by simp at hf, fun cs hl => by simp at hl; simp [hl]⟩
  | f :: fs, off, ks, h => by
    simp only [kcsF] at h
    split at h
    case h_2 => simp at h
    rename_i l hl
    split at h
    case isFalse => simp at h
    rename_i hc
    simp only [Bool.and_eq_true] at hc
    have hoff := Nat.eq_of_beq_eq_true hc.1
    have hlen := Nat.eq_of_beq_eq_true hc.2
    split at h
    case h_2 => simp at h
    rename_i r hr
    simp only [Option.some.injEq] at h
    subst h
    obtain ⟨kss, h1, h2, h3, h4⟩ := fields_go hr
    refine ⟨l :: kss, by rw [h1]; simp, by simp [h2], ?_, ?_⟩
    · intro i f' hf
      cases i with
      | zero =>
        simp only [List.getElem?_cons_zero, Option.some.injEq] at hf
        subst hf
        exact ⟨l, rfl, hl, hlen⟩
      | succ i => simpa using h3 i f' (by simpa using hf)
    · intro cs hcs
      have := h4 cs (by simp at hcs; omega)
      simp only [List.map_cons, List.flatten_cons]
      rw [← this, hoff, ← hlen]
      exact (split_at cs off l.length).symm

theorem array_cells (cs : List Value) (n : Nat) : ∀ (m j : Nat), cs.length = (j + m) * n → cs.drop (j * n) = ((List.range' j m).map fun i => (cs.drop (i * n)).take n).flatten
  | 0, j, h => by simp at h; simp [h]
  | m + 1, j, h => by
    have := array_cells cs n m (j + 1) (by rw [h]; congr 1; omega)
    simp only [List.range'_succ, List.map_cons, List.flatten_cons]
    rw [← this, show (j + 1) * n = j * n + n from Nat.succ_mul j n]
    exact (split_at cs (j * n) n).symm

theorem open_cells : ∀ (fuel n : Nat) (t : TypeId) (cs : List Value) (d : DataW H) (ps : List MemPlace) (ks : List Kc), kcs P n t = some ks → DataW.trod enc P W 0 (fun _ => true) held fuel t cs = some (d, ps) → Got P W ks d cs
  | fuel, 0, t, cs, d, ps, ks, hk, h => by simp [kcs] at hk
  | fuel, n + 1, t, cs, d, ps, ks, hk, h => by
    have ih := fun (fuel' : Nat) (t' : TypeId) (cs' : List Value) (d' : DataW H) (ps' : List MemPlace) (ks' : List Kc) => open_cells fuel' n t' cs' d' ps' ks'
    simp only [kcs] at hk
    split at hk
    · -- bool
      rename_i ht
      simp only [Option.some.injEq] at hk
      subst hk
      obtain ⟨b, rfl, e⟩ := DataW.trod_bool ht h
      simp only [Prod.mk.injEq] at e
      refine ⟨⟨[.b b], ⟨trivial, trivial⟩, Opens.flat (as := [.bool b]) (fun ρ => by simp), fun l hl => ?_⟩, rfl⟩
      rw [e.1] at hl
      simp only [litsD, Option.some.injEq] at hl
      subst hl
      exact ⟨rfl, fun ρ => by simp [flatA]⟩
    · rename_i k ht
      simp only [Option.some.injEq] at hk
      subst hk
      obtain ⟨m, rfl, e, hw⟩ := DataW.trod_int ht h
      simp only [Prod.mk.injEq] at e
      refine ⟨⟨[.i k m], ⟨⟨rfl, hw⟩, trivial⟩, Opens.flat (as := [.int k m]) (fun ρ => by simp), fun l hl => ?_⟩, rfl⟩
      rw [e.1] at hl
      simp only [litsD, Option.some.injEq] at hl
      subst hl
      exact ⟨rfl, fun ρ => by simp [flatA]⟩
    · rename_i ht
      simp only [Option.some.injEq] at hk
      subst hk
      obtain ⟨m, rfl, e, hw⟩ := DataW.trod_string ht h
      simp only [Prod.mk.injEq] at e
      refine ⟨⟨[.s m], ⟨hw, trivial⟩, Opens.flat (as := [.str m]) (fun ρ => by simp), fun l hl => ?_⟩, rfl⟩
      rw [e.1] at hl
      simp [litsD] at hl
    · -- slice
      rename_i e ht
      split at hk
      case h_2 => simp at hk
      rename_i l hl
      split at hk
      case isFalse => simp at hk
      rename_i hc
      simp only [Bool.and_eq_true, Bool.not_eq_true'] at hc
      have hsz := Nat.eq_of_beq_eq_true hc.1
      have hne : l ≠ [] := by intro e; rw [e] at hc; simp at hc
      simp only [Option.some.injEq] at hk
      subst hk
      rcases DataW.trod_slice ht h with ⟨rfl, ed⟩ | ⟨a, len, cap, elems, rest, m, _, rfl, ed, _, hlc, hcm, hel, h1, h2, _⟩
      · simp only [Prod.mk.injEq] at ed
        refine ⟨⟨[.nil], ⟨trivial, trivial⟩, Opens.flat (as := [.nilSlice]) (fun ρ => by simp), fun l hl => ?_⟩, rfl⟩
        rw [ed.1] at hl
        simp [litsD] at hl
      · obtain ⟨hrl, h2⟩ := h2 rfl
        simp only [Prod.mk.injEq] at ed
        -- all rows
        have hall : ∀ i, i < cap → ∃ cs' y, W.cells? 0 (a.add (i * P.cellsOf e)) (P.cellsOf e) = some cs' ∧ DataW.trod enc P W 0 (fun _ => true) held m e cs' = some y ∧ (elems ++ rest)[i]? = some y := by
          intro i hi
          by_cases hil : i < len
          · have := h1 i hil
            rw [List.getElem?_append_left (by omega)]
            cases hE : elems[i]? with
            | none => have := List.getElem?_eq_none_iff.1 hE; omega
            | some y =>
              rw [hE] at this
              simp only [Option.bind_eq_some_iff] at this
              obtain ⟨cs', k1, k2⟩ := this
              exact ⟨cs', y, k1, k2, rfl⟩
          · have := h2 (i - len) (by omega)
            rw [show len + (i - len) = i from by omega] at this
            rw [List.getElem?_append_right (by omega), hel]
            cases hE : rest[i - len]? with
            | none => have := List.getElem?_eq_none_iff.1 hE; omega
            | some y =>
              rw [hE] at this
              simp only [Option.bind_eq_some_iff] at this
              obtain ⟨cs', k1, k2⟩ := this
              exact ⟨cs', y, k1, k2, rfl⟩
        have hcl : (elems ++ rest).length = cap := by simp; omega
        let css : List (List Value) := (List.range cap).map fun i => (W.cells? 0 (a.add (i * P.cellsOf e)) (P.cellsOf e)).getD []
        have hcss : ∀ (i : Nat) (cs : List Value), css[i]? = some cs → i < cap ∧ W.cells? 0 (a.add (i * P.cellsOf e)) (P.cellsOf e) = some cs := by
          intro i cs hi
          simp only [css, List.getElem?_map, Option.map_eq_some_iff] at hi
          obtain ⟨j, hj, e⟩ := hi
          rw [List.getElem?_eq_some_iff] at hj
          obtain ⟨hj1, hj2⟩ := hj
          simp at hj1 hj2
          subst hj2
          obtain ⟨cs', y, k1, _⟩ := hall i hj1
          rw [k1] at e ⊢
          simp only [Option.getD_some] at e
          subst e
          exact ⟨hj1, rfl⟩
        have hlen : css.length = cap := by simp [css]
        obtain ⟨rows, r1, r2, r3⟩ := rows_open (P := P) (W := W) (es := l) (css := css) (ds := (elems ++ rest).map (·.1)) (by simp [hlen]; omega) (fun i d' cs' hd' hcs' => by
          obtain ⟨hi, hh⟩ := hcss i cs' hcs'
          obtain ⟨cs2, y, k1, k2, k3⟩ := hall i hi
          rw [hh] at k1
          simp only [Option.some.injEq] at k1
          subst k1
          rw [List.getElem?_map, k3] at hd'
          simp only [Option.map_some, Option.some.injEq] at hd'
          subst hd'
          exact ih m e cs' y.1 y.2 l hl k2)
        have hrc : rows.length = cap := by rw [r1, hlen]
        have hlens : ∀ cs ∈ css, cs.length = P.cellsOf e := by
          intro cs hcs
          obtain ⟨i, hi⟩ := List.getElem?_of_mem hcs
          exact (World.cells?_some (hcss i cs hi).2).2.1
        have hcell : ∀ i v, css.flatten[i]? = some v → W.cell? (a.add i) = some v := by
          have gen : ∀ (n j : Nat) (i : Nat) (v : Value), (((List.range' j n).map fun i => (W.cells? 0 (a.add (i * P.cellsOf e)) (P.cellsOf e)).getD []).flatten)[i]? = some v → j + n ≤ cap → W.cell? (a.add (j * P.cellsOf e + i)) = some v := by
            intro n
            induction n with
            | zero => intro j i v hv _; simp at hv
            | succ n ihn =>
              intro j i v hv hj
              simp only [List.range'_succ, List.map_cons, List.flatten_cons] at hv
              obtain ⟨cs', y, k1, _⟩ := hall j (by omega)
              rw [k1] at hv
              simp only [Option.getD_some] at hv
              obtain ⟨_, q1, q2⟩ := World.cells?_some k1
              by_cases hi : i < P.cellsOf e
              · rw [List.getElem?_append_left (by omega)] at hv
                have := q2 i hi
                rw [hv] at this
                rw [← this, add_add]
              · rw [List.getElem?_append_right (by omega), q1] at hv
                have := ihn (j + 1) (i - P.cellsOf e) v hv (by omega)
                rw [← this]
                congr 2
                rw [Nat.succ_mul]
                omega
          intro i v hv
          have := gen cap 0 i v (by rw [← List.range_eq_range']; exact hv) (by omega)
          simpa using this
        refine ⟨⟨[.sl rows len], ⟨⟨by omega, by omega, r2⟩, trivial⟩, ?_, fun l hl => ?_⟩, rfl⟩
        · have hs := Opens.slice (P := P) (W := W) (rows := rows) (len := len) (a := a) r3 (by omega) (fun h0 => ?_) hcell
          · rw [← hrc]
            simpa [absCs, absC, Opens] using hs
          · intro hnil
            obtain ⟨cs', y, k1, _⟩ := hall 0 (by omega)
            have hq := (World.cells?_some k1).2.1
            have hmem : cs' ∈ css := by
              simp only [css, List.mem_map, List.mem_range]
              exact ⟨0, by omega, by rw [k1]; rfl⟩
            have : cs' = [] := by
              have h9 := List.flatten_eq_nil_iff.1 hnil cs' hmem
              exact h9
            rw [this, ← hsz] at hq
            simp at hq
            exact hne (List.length_eq_zero_iff.1 hq.symm)
        · rw [ed.1] at hl
          simp [litsD] at hl
    · -- struct
      rename_i fs ht
      obtain ⟨xs, m, _, ed, hlen, hxl, hx⟩ := DataW.trod_struct ht h
      split at hk
      case h_2 => simp at hk
      rename_i l hgo
      split at hk
      case isFalse => simp at hk
      rename_i hll
      have hll := Nat.eq_of_beq_eq_true hll
      simp only [Option.some.injEq] at hk
      subst hk
      obtain ⟨kss, g1, g2, g3, g4⟩ := fields_go hgo
      simp only [Prod.mk.injEq] at ed
      have hcs := g4 cs (by omega)
      simp only [List.drop_zero] at hcs
      rw [hcs, g1, ed.1]
      refine parts_open (by simp [g2]) (by simp [hxl]) (fun i k d' cs' hk' hd' hcs' => ?_)
      simp only [List.getElem?_map, Option.map_eq_some_iff] at hd' hcs'
      obtain ⟨f, hf, rfl⟩ := hcs'
      obtain ⟨y, hy, rfl⟩ := hd'
      obtain ⟨k2, e1, e2, _⟩ := g3 i f hf
      rw [hk'] at e1
      simp only [Option.some.injEq] at e1
      subst e1
      have := hx i f (by simpa using hf)
      rw [hy] at this
      exact ih m f.type _ y.1 y.2 k e2 this
    · -- array
      rename_i m e ht
      split at hk
      case h_2 => simp at hk
      rename_i l hl
      split at hk
      case isFalse => simp at hk
      rename_i hc
      simp only [Bool.and_eq_true] at hc
      have hsz := Nat.eq_of_beq_eq_true hc.1
      have hm := Nat.eq_of_beq_eq_true hc.2
      simp only [Option.some.injEq] at hk
      subst hk
      obtain ⟨xs, m', _, ed, hlen, hxl, hx⟩ := DataW.trod_array ht h
      simp only [Prod.mk.injEq] at ed
      have hcs := array_cells cs (P.cellsOf e) m 0 (by rw [hlen, ← hm, hsz, Nat.zero_add])
      simp only [Nat.zero_mul, List.drop_zero] at hcs
      rw [hcs, ed.1]
      refine parts_open (by simp) (by simp [hxl]) (fun i k d' cs' hk' hd' hcs' => ?_)
      simp only [List.getElem?_map, Option.map_eq_some_iff] at hd' hcs'
      obtain ⟨j, hj, rfl⟩ := hcs'
      obtain ⟨y, hy, rfl⟩ := hd'
      rw [List.getElem?_eq_some_iff] at hj
      obtain ⟨hj1, hj2⟩ := hj
      simp at hj1 hj2
      subst hj2
      rw [List.getElem?_replicate] at hk'
      rw [if_pos hj1] at hk'
      simp only [Option.some.injEq] at hk'
      subst hk'
      have := hx i hj1
      rw [hy] at this
      exact ih m' e _ y.1 y.2 l hl this
    · simp at hk
end
end Go.Mini

namespace Go.Mini
open Go Go.RowKit Go.ChangeShapes

/-! ### a law, from its arguments to its end -/
section
variable {H : Type} {enc : TypeId × Value → H} {P : Program}
theorem post_of_below {f : Func} {s : ChangeSpec} {apart fresh handsOn again : Bool} {W W' : World} {args : Array Value} {v : Value} {ds gs : List (DataW H)} {before pa pv : List MemPlace}
    (hW : DataW.Whole enc P f.params.toList s.vars apart W args.toList ds gs before)
    (hres : ∀ (b : Nat) (sp : Nat → Bool) (hd : Bool), DataW.TrodAll enc P W' b sp hd f.resultTypes.toList (v.resultList f.resultTypes.size) (s.fn H (ds ++ gs)).results [])
    (hargs : ∀ sp : Nat → Bool, (∀ p ∈ before, sp p.block = true) → DataW.TrodAll enc P W' 0 sp true f.params.toList args.toList (s.fn H (ds ++ gs)).args pa)
    (hvars : ∀ sp : Nat → Bool, (∀ p ∈ before, sp p.block = true) → DataW.TrodVars enc P W' sp s.vars (s.fn H (ds ++ gs)).vars pv)
    (hps : before = pa ++ pv) (hb : Below W.heap.size W W')
    (hok : ∀ (j : Nat) (t : TypeId) (r : Value), f.resultTypes[j]? = some t → (v.resultList f.resultTypes.size)[j]? = some r → Value.okWide P W' .any 0 t r) :
    s.post enc P f apart fresh handsOn again W args v W' := by
  have hlt : ∀ p ∈ before, p.block < W.heap.size := fun p hp => hW.lt p hp
  have hold : ∀ p ∈ before, (fun b => decide (b < W.heap.size)) p.block = true := fun p hp => by simpa using hlt p hp
  refine ⟨ds, gs, before, [], pa, pv, hW, hres _ _ _, hargs _ hold, hvars _ hold, World.keptBut_mono (fun p hp => ⟨hp, ?_⟩) (hb.frame (· ∈ before)), fun _ => ?_⟩
  · rw [hps, List.mem_append] at hp
    exact Or.inr hp
  · obtain ⟨_, _, _, _, _, hz, hn⟩ := hW
    refine ⟨hok, _, _, ([] ++ pa) ++ pv, ⟨[] ++ pa, pv, trodAll_append (hargs _ (fun _ _ => rfl)) (hres _ _ _), hvars _ (fun _ _ => rfl), rfl, ?_, ?_⟩, ?_⟩
    · intro b off hp
      have hin : MemPlace.cell b off ∈ before := by rw [hps]; simpa using hp
      rw [hb.frozen (hlt _ hin)]
      exact hz b off hin
    · intro ha
      have := hn ha
      rw [hps] at this
      simpa using this
    · intro p hp _
      rw [hps]
      simpa using hp

theorem trodAll_below (hl : laidOutB P = true) {W W' : World} (hb : Below W.heap.size W W') : ∀ {ts : List TypeId} {vs : List Value} {ds : List (DataW H)} {ps : List MemPlace}, (∀ t ∈ ts, P.readableRec t = true ∧ t < P.types.size) →
    DataW.TrodAll enc P W 0 (fun _ => true) true ts vs ds ps → (∀ x ∈ ps, x.block < W.heap.size) → ∀ sp : Nat → Bool, (∀ p ∈ ps, sp p.block = true) → DataW.TrodAll enc P W' 0 sp true ts vs ds ps
  | [], vs, ds, ps, _, h, _, _, _ => by
    obtain ⟨rfl, rfl, rfl⟩ := trodAll_nil h
    exact trodAll_mk0
  | t :: ts, vs, ds, ps, ht, h, hlt, sp, hsp => by
    obtain ⟨v, vs', d, ds', p, q, rfl, rfl, rfl, h1, h2⟩ := trodAll_cons h
    refine ⟨p, q, ?_, trodAll_below hl hb (fun t' h' => ht t' (by simp [h'])) h2 (fun x hx => hlt x (by simp [hx])) sp (fun x hx => hsp x (by simp [hx])), rfl⟩
    exact WideElems.Trod_stays hl (ht t (by simp)).1 (ht t (by simp)).2 h1 (fun x hx => hb.same (hlt x (by simp [hx]))) (fun x hx => hsp x (by simp [hx]))
end

section
variable {H : Type} {enc : TypeId × Value → H} {P : Program} {W : World}

def argA (agg : Bool) (as : List AV) : AV := if agg then .agg as else as.headD undefA
def absArgs : List (Bool × List SD) → AS → List AV × AS
  | [], s => ([], s)
  | x :: l, s => (argA x.1 (absCs x.2 s).1 :: (absArgs l (absCs x.2 s).2).1, (absArgs l (absCs x.2 s).2).2)

theorem absCs_length : ∀ (xs : List SD) (s : AS), (absCs xs s).1.length = xs.length
  | [], _ => rfl
  | x :: xs, s => by simp [absCs, absCs_length xs]

/-- What a parameter is like. -/
structure Pk where
  agg : Bool
  ks : List Kc
def Fits : List (Bool × List SD) → List Pk → Prop
  | [], [] => True
  | x :: l, k :: ks => x.1 = k.agg ∧ Tys x.2 k.ks ∧ Fits l ks
  | _, _ => False

def pkOf (P : Program) (t : TypeId) : Option Pk :=
  match isAggA P t, kcs P 9 t with
  | some b, some ks => if b || Nat.beq ks.length 1 then some ⟨b, ks⟩ else none
  | _, _ => none

theorem arg_open {base : Nat} {t : TypeId} {v : Value} {d : DataW H} {p : List MemPlace} {k : Pk} (hk : pkOf P t = some k) (hv : Value.okWide P W .any base t v) (h : DataW.Trod enc P W 0 (fun _ => true) true t v d p) :
    ∃ sds, Tys sds k.ks ∧ Opens P W (fun s => ([argA k.agg (absCs sds s).1], (absCs sds s).2)) [v] := by
  unfold pkOf at hk
  split at hk
  case h_2 => simp at hk
  rename_i b ks hb hks
  split at hk
  case isFalse => simp at hk
  rename_i hc
  simp only [Option.some.injEq] at hk
  subst hk
  obtain ⟨fuel, hf⟩ := h
  obtain ⟨⟨sds, h1, h2, _⟩, h4⟩ := open_cells (P := P) (W := W) fuel 9 t _ d p ks hks hf
  refine ⟨sds, h1, fun ρ s R => ?_⟩
  obtain ⟨n, ρ', R', e, hr⟩ := h2 ρ s R
  refine ⟨n, ρ', R', e, ?_⟩
  simp only [vrels_cons, vrels_nil]
  refine ⟨v, [], rfl, ?_, rfl⟩
  unfold Value.okWide at hv
  unfold isAggA at hb
  cases b with
  | true =>
    have hag : ∃ cs, v = .agg cs := by
      split at hb <;> simp at hb
      · rename_i hu
        rw [hu] at hv
        obtain ⟨cs, h, _⟩ := hv
        exact ⟨cs, h⟩
      · rename_i hu
        rw [hu] at hv
        obtain ⟨cs, h, _⟩ := hv
        exact ⟨cs, h⟩
    obtain ⟨cs, rfl⟩ := hag
    simp only [argA, if_true, vrel_agg]
    exact ⟨cs.toList, by simp, by simpa [Value.cells] using hr⟩
  | false =>
    simp only [Bool.false_or] at hc
    have hlen : ks.length = 1 := Nat.eq_of_beq_eq_true hc
    have hcell : ∀ cs, v ≠ .agg cs := by
      rintro cs rfl
      split at hb <;> simp at hb
      rename_i d hu1 hu2 hu
      rw [hu] at hv
      cases d <;> simp_all [Cell.okWide, Cell.ok]
    have hvc : v.cells.toList = [v] := by
      cases v <;> simp_all [Value.cells]
    rw [hvc] at hr
    have hl2 : (absCs sds s).1.length = 1 := by rw [absCs_length, tys_length h1, hlen]
    obtain ⟨x, hx⟩ := List.length_eq_one_iff.1 hl2
    rw [hx] at hr
    simp only [argA, hx, Bool.false_eq_true, if_false, List.headD_cons]
    simpa using hr

theorem args_open {base : Nat} : ∀ {ts : List TypeId} {vs : List Value} {ds : List (DataW H)} {ps : List MemPlace} {pks : List Pk}, ts.mapM (pkOf P) = some pks → DataW.TrodAll enc P W 0 (fun _ => true) true ts vs ds ps →
    (∀ (j : Nat) t v, ts[j]? = some t → vs[j]? = some v → Value.okWide P W .any base t v) → ∃ xs, Fits xs pks ∧ Opens P W (absArgs xs) vs
  | [], vs, ds, ps, pks, hk, h, _ => by
    obtain ⟨rfl, _, _⟩ := trodAll_nil h
    simp at hk
    subst hk
    exact ⟨[], trivial, by simpa [absArgs] using Opens.flat (P := P) (W := W) (as := []) (cs := []) (fun _ => by simp)⟩
  | t :: ts, vs, ds, ps, pks, hk, h, hv => by
    obtain ⟨v, vs', d, ds', p, q, rfl, rfl, rfl, h1, h2⟩ := trodAll_cons h
    simp only [List.mapM_cons, Option.bind_eq_bind, Option.bind_eq_some_iff, Option.pure_def, Option.some.injEq] at hk
    obtain ⟨k, hk1, ks, hk2, rfl⟩ := hk
    obtain ⟨sds, a1, a2⟩ := arg_open hk1 (hv 0 t v rfl rfl) h1
    obtain ⟨xs, b1, b2⟩ := args_open hk2 h2 (fun j t' v' x y => hv (j + 1) t' v' (by simpa using x) (by simpa using y))
    refine ⟨(k.agg, sds) :: xs, ⟨rfl, a1, b1⟩, ?_⟩
    have := a2.append b2
    simpa [absArgs, Opens] using this

/-! ### package-level variables -/
def startS (P : Program) (G : List (Nat × List AV)) : AS := ⟨⟨G.map (fun x => (x.1, .cells true x.2)), G.length, none, []⟩, P.globals.size⟩

theorem getB_map {G : List (Nat × List AV)} {b : Nat} {o : AObj} (h : getB (G.map (fun x => (x.1, AObj.cells true x.2))) b = some o) : ∃ x ∈ G, x.1 = b ∧ o = .cells true x.2 := by
  induction G with
  | nil => simp [getB] at h
  | cons x G ih =>
    simp only [List.map_cons, getB] at h
    split at h
    · rename_i hb
      simp only [Option.some.injEq] at h
      exact ⟨x, by simp, Nat.eq_of_beq_eq_true hb, h.symm⟩
    · obtain ⟨y, h1, h2⟩ := ih h
      exact ⟨y, by simp [h1], h2⟩

def sizeAt (W : World) (g : Nat) : Nat := match W.heap[g]? with
  | some (.cells arr _ _) => arr.size
  | _ => 0

theorem rel_start {G : List (Nat × List AV)} (hW : P.globals.size ≤ W.heap.size) (hG : ∀ x ∈ G, x.1 < P.globals.size ∧ ∃ arr e fz, W.heap[x.1]? = some (.cells arr e fz) ∧ ∀ ρ, VRels ρ x.2 arr.toList) :
    Rel P (allKept W) (fun g => if g < P.globals.size then some ⟨g, 0, sizeAt W g⟩ else none) (startS P G) W := by
  have inv : ∀ {b L}, (if b < P.globals.size then some (⟨b, 0, sizeAt W b⟩ : Loc) else none) = some L → b < P.globals.size ∧ L = ⟨b, 0, sizeAt W b⟩ := by
    intro b L h
    split at h
    · simp only [Option.some.injEq] at h
      exact ⟨‹_›, h.symm⟩
    · cases h
  refine ⟨.refl _ _, fun g hg => ⟨_, if_pos hg, rfl, rfl⟩, fun b hb => if_neg (Nat.not_lt.2 hb), ?_, ?_, ?_, ?_, ?_, ?_⟩
  · intro k hk
    simp only [startS, List.map_map, List.mem_map] at hk
    obtain ⟨x, hx, rfl⟩ := hk
    exact (hG x hx).1
  · intro b L h
    obtain ⟨h1, rfl⟩ := inv h
    exact Nat.lt_of_lt_of_le h1 hW
  · intro b o L hb hL
    obtain ⟨x, hx, rfl, rfl⟩ := getB_map hb
    obtain ⟨_, rfl⟩ := inv hL
    obtain ⟨_, arr, e, fz, h1, h2⟩ := hG x hx
    exact ⟨_, h1, arr, e, fz, rfl, by simp [sizeAt, h1], by simp, arr.toList, h2 _, fun i v hi => by simpa using hi⟩
  · intro b o L hb hr _
    obtain ⟨x, hx, rfl, rfl⟩ := getB_map hb
    simp [AObj.rw] at hr
  · intro b cs L _ hL
    obtain ⟨h1, rfl⟩ := inv hL
    exact Nat.lt_of_lt_of_le h1 hW
  · intro b b' o o' L L' hb _ hr
    obtain ⟨x, hx, rfl, rfl⟩ := getB_map hb
    simp [AObj.rw] at hr

def laidFine (P : Program) (g : Nat) : Bool :=
  match (P.globals[g]?).map (·.type) with
  | some t => (match kcs P 9 t with
    | some _ => true
    | none => false)
  | none => false
/-- The laid ones, as the row lists them. -/
def laidA (P : Program) : List (String × DataW Unit) → Option (List (Nat × List AV))
  | [] => some []
  | (n, d) :: r => match P.globalNamed n, litsD d, laidA P r with
    | some g, some l, some q => if laidFine P g && Nat.blt g P.globals.size then some ((g, flatA l) :: q) else none
    | _, _, _ => none

theorem laid_open : ∀ {laid : List (String × DataW Unit)} {G : List (Nat × List AV)} {ps : List MemPlace}, laidA P laid = some G → DataW.LaidVars P W laid ps →
    ∀ x ∈ G, x.1 < P.globals.size ∧ ∃ arr e fz, W.heap[x.1]? = some (.cells arr e fz) ∧ ∀ ρ, VRels ρ x.2 arr.toList
  | [], G, ps, h, _ => by
    simp only [laidA, Option.some.injEq] at h
    subst h
    simp
  | (n, d) :: r, G, ps, h, hl => by
    obtain ⟨g, t, cs, fuel, p, q, h1, h2, h3, h4, h5, _⟩ := hl
    simp only [laidA, h1] at h
    split at h
    case h_2 => simp at h
    rename_i g' l q' hg hlits hq
    simp only [Option.some.injEq] at hg
    subst hg
    split at h
    case isFalse => simp at h
    rename_i hc
    simp only [Bool.and_eq_true] at hc
    simp only [Option.some.injEq] at h
    subst h
    intro x hx
    rcases List.mem_cons.1 hx with rfl | hx
    · refine ⟨by simpa using hc.2, ?_⟩
      have hk := hc.1
      unfold laidFine at hk
      rw [h2] at hk
      simp only at hk
      split at hk
      case h_2 => cases hk
      rename_i ks hks
      have hgot := (open_cells (P := P) (W := W) fuel 9 t _ d p ks hks h4).out
      obtain ⟨sds, _, _, e3⟩ := hgot
      simp only [World.var?, h1, Option.bind_some] at h3
      split at h3
      case h_2 => simp at h3
      rename_i arr el fz hh
      simp only [Option.some.injEq] at h3
      subst h3
      exact ⟨_, el, fz, hh, (e3 l hlits).2⟩
    · exact laid_open hq h5 x hx

mutual
theorem ren_id : ∀ a : AV, a.ren (fun b => b) = a
  | .bool _ => rfl
  | .int _ _ => rfl
  | .str _ => rfl
  | .nilPtr => rfl
  | .ptr _ _ => rfl
  | .nilSlice => rfl
  | .slice _ _ _ _ => rfl
  | .osl _ _ _ _ => rfl
  | .nilMap => rfl
  | .map _ => rfl
  | .func _ fs cs => by simp only [AV.ren, rens_id fs, rens_id cs]
  | .nilFunc => rfl
  | .iface _ x => by simp only [AV.ren, ren_id x]
  | .nilIface => rfl
  | .agg cs => by simp only [AV.ren, rens_id cs]
  | .tuple cs => by simp only [AV.ren, rens_id cs]
theorem rens_id : ∀ l : List AV, rens (fun b => b) l = l
  | [] => rfl
  | a :: l => by simp only [rens, ren_id a, rens_id l]
end

def lowNames (P : Program) (l : List AV) : Bool := namess (fun b => Nat.blt b P.globals.size) l
def lowG (P : Program) (G : List (Nat × List AV)) : Bool := G.all fun x => Nat.blt x.1 P.globals.size && lowNames P x.2
/-- A call that leans on the laid ones alone, and tells nothing new, is so in each state. -/
theorem Sound.pure {f : FuncId} {args : List AV} {G : List (Nat × List AV)} {e : AExit} {v : AV} {s1 : AS} (h : Sound P (.call f args (startS P G)) ⟨e, [v], s1⟩) (hl : lowG P G = true) (ha : lowNames P args = true) (hv : lowNames P [v] = true)
    {s : AS} (hs : hasG s G = true) : Sound P (.call f args s) ⟨.ret, [v], s⟩ := by
  have hl' : ∀ x ∈ G, x.1 < P.globals.size ∧ lowNames P x.2 = true := fun x hx => by
    have := List.all_eq_true.1 hl x hx
    simpa using this
  have := Sound.frame h (fun b => b) s (fun g hg => ⟨hg, rfl⟩) (fun k hk => ?_) (fun b o hb => ?_) ha (show v.names (fun b => Nat.blt b P.globals.size) = true by simpa [lowNames, namess] using hv) .ret
  · rwa [rens_id, ren_id] at this
  · simp only [startS, List.map_map, List.mem_map] at hk
    obtain ⟨x, hx, rfl⟩ := hk
    exact (hl' x hx).1
  · obtain ⟨x, hx, rfl, rfl⟩ := getB_map hb
    have := List.all_eq_true.1 hs x hx
    split at this
    · rename_i ro cs hcs
      have e := AV.beqs_eq this
      refine ⟨x.2, ro, rfl, (hl' x hx).2, ?_⟩
      rw [rens_id, ← e]
      exact hcs
    · cases this

theorem Kept.below {W W' : World} (h : Kept (allKept W).K (allKept W).w W') : Below W.heap.size W W' := ⟨h.os, h.tape, h.output, h.size, h.block⟩

/-- A law holds where the interpreter says so of all that may be handed. -/
theorem law {f : FuncId} {fn : Func} {s : ChangeSpec} {fresh handsOn again : Bool} {laid : List (String × DataW Unit)} {G : List (Nat × List AV)} {pks : List Pk} {tb : TypeId}
    (hlo : laidOutB P = true) (hread : fn.params.toList.all (fun t => P.readableRec t && decide (t < P.types.size)) = true) (hpk : fn.params.toList.mapM (pkOf P) = some pks)
    (hres : fn.resultTypes = #[tb]) (htb : P.underlying tb = some .bool) (hvars : s.vars = []) (hG : laidA P laid = some G) (hnoH : laid.filter (fun x => x.2.handleName?.isSome) = [])
    (hinit : P.globals.size < (begin P (fun _ _ => 0) default).world.heap.size)
    (hspec : ∀ ds : List (DataW H), ds.length = fn.params.size → s.fn H (ds ++ []) = { results := [.lit (.bool true)], args := ds, vars := [] })
    (main : ∀ xs, Fits xs pks → ∃ e s1, Sound P (.call f (absArgs xs (startS P G)).1 (absArgs xs (startS P G)).2) ⟨e, [.bool true], s1⟩)
    {base : Nat} {args : Array Value} {ds gs : List (DataW H)} {before : List MemPlace}
    (hval : ∀ (j : Nat) t v, fn.params[j]? = some t → args[j]? = some v → Value.okWide P W .any base t v)
    (hW : DataW.Whole enc P fn.params.toList s.vars false W args.toList ds gs before) (hL : laidMetH P laid W) (hSh : W.ShapedOpen P) :
    Calls P f args W fun e W' => ∃ v, e = .returned v ∧ s.post enc P fn false fresh handsOn again W args v W' := by
  have hW' := hW
  obtain ⟨p, q, hA, hV, rfl, hfz, hnd⟩ := hW
  have hsz : P.globals.size < W.heap.size := by
    obtain ⟨o, _, h1, _⟩ := hSh.2 P.globals.size (Nat.le_refl _) hinit
    exact (Array.getElem?_eq_some_iff.1 h1).1
  have hlaid : ∃ ps, DataW.LaidVars P W laid ps := by
    unfold laidMetH at hL
    rw [hnoH] at hL
    obtain ⟨ps, h, _⟩ := hL
    exact ⟨ps, h⟩
  obtain ⟨lps, hlaid⟩ := hlaid
  have R := rel_start (P := P) (W := W) (Nat.le_of_lt hsz) (laid_open hG hlaid)
  obtain ⟨xs, hfit, hop⟩ := args_open hpk hA (fun j t v ht hv => hval j t v (by simpa using ht) (by simpa using hv))
  obtain ⟨_, ρ', R', _, hr⟩ := hop _ _ R
  obtain ⟨e, s1, hs⟩ := main xs hfit
  have hcall := hs (allKept W) ρ' args.toList W R' hr
  rw [Array.toArray_toList] at hcall
  refine Calls.mono hcall fun en W' hq => ?_
  obtain ⟨v', u, ρ2, e1, rfl, e3, e4⟩ := hq
  simp only [List.cons.injEq, and_true] at e1
  subst e1
  rw [vrel_bool] at e3
  subst e3
  refine ⟨_, rfl, ?_⟩
  have hb : Below W.heap.size W W' := Kept.below e4.rel.below
  have hgs : gs = [] ∧ q = [] := by
    rw [hvars] at hV
    exact trodVars_none hV
  obtain ⟨rfl, rfl⟩ := hgs
  have hdl : ds.length = fn.params.size := by
    have gen : ∀ {ts : List TypeId} {vs : List Value} {ds : List (DataW H)} {ps : List MemPlace}, DataW.TrodAll enc P W 0 (fun _ => true) true ts vs ds ps → ds.length = ts.length := by
      intro ts
      induction ts with
      | nil => intro vs ds ps h; obtain ⟨_, rfl, _⟩ := trodAll_nil h; rfl
      | cons t ts ih =>
        intro vs ds ps h
        obtain ⟨v, vs', d, ds', p, q, rfl, rfl, rfl, _, h2⟩ := trodAll_cons h
        simp [ih h2]
    simpa using gen hA
  have hsp := hspec ds hdl
  have hread' : ∀ t ∈ fn.params.toList, P.readableRec t = true ∧ t < P.types.size := by
    intro t ht
    have := List.all_eq_true.1 hread t ht
    simpa using this
  refine post_of_below (pa := p) (pv := []) hW' ?_ ?_ ?_ rfl hb ?_
  · intro b sp hd
    rw [hsp, hres]
    exact trodAll_mk1 (shut_bool htb _)
  · intro sp hsp'
    rw [hsp]
    exact trodAll_below hlo hb hread' hA (fun x hx => hW'.lt x (by simpa using hx)) sp (fun x hx => hsp' x (by simpa using hx))
  · intro sp _
    rw [hsp, hvars]
    rfl
  · exact ok_one hres rfl (okWide_bool_mk htb _)
end
end Go.Mini

namespace Go.Mini
open Go Go.RowKit

/-! ### a call that turns blocks of its caller's, and makes some: known in a small state, it is known in each -/
def setL (s : AS) : List (Nat × AObj) → AS
  | [] => s
  | x :: l => setL (s.set x.1 x.2) l
def pushL (s : AS) : List AObj → AS
  | [] => s
  | o :: l => pushL (s.push o) l

theorem setL_shape : ∀ (l : List (Nat × AObj)) (s : AS), Shape s (setL s l)
  | [], s => .refl s
  | x :: l, s => (Shape.set s x.1 x.2).trans (setL_shape l _)
theorem setL_nx : ∀ (l : List (Nat × AObj)) (s : AS), (setL s l).nx = s.nx
  | [], _ => rfl
  | x :: l, s => by simp only [setL, setL_nx l]; rfl
theorem setL_other : ∀ {l : List (Nat × AObj)} {s : AS} {b : Nat}, b ∉ l.map (·.1) → (setL s l).get b = s.get b
  | [], _, _, _ => rfl
  | x :: l, s, b, h => by
    simp only [List.map_cons, List.mem_cons, not_or] at h
    simp only [setL]
    rw [setL_other h.2, AS.get_set, if_neg h.1]
theorem setL_at : ∀ {l : List (Nat × AObj)} {s : AS} {b : Nat} {o q : AObj}, (l.map (·.1)).Nodup → (b, o) ∈ l → s.get b = some q → (setL s l).get b = some o
  | x :: l, s, b, o, q, hn, hm, hs => by
    simp only [List.map_cons, List.nodup_cons] at hn
    simp only [setL]
    rcases List.mem_cons.1 hm with rfl | hm
    · rw [setL_other hn.1, AS.get_set, if_pos rfl, hs]
      rfl
    · have hne : b ≠ x.1 := fun e => hn.1 (List.mem_map.2 ⟨(b, o), hm, e⟩)
      exact setL_at (q := q) hn.2 hm (by rw [AS.get_set, if_neg hne]; exact hs)
theorem pushL_shape : ∀ (l : List AObj) (s : AS), Shape s (pushL s l)
  | [], s => .refl s
  | o :: l, s => (Shape.push s o).trans (pushL_shape l _)
theorem pushL_nx : ∀ (l : List AObj) (s : AS), (pushL s l).nx = s.nx + l.length
  | [], _ => rfl
  | o :: l, s => by simp only [pushL, pushL_nx l, AS.nx_push, List.length_cons]; omega
theorem pushL_old : ∀ {l : List AObj} {s : AS} {b : Nat}, b < s.nx → (pushL s l).get b = s.get b
  | [], _, _, _ => rfl
  | o :: l, s, b, h => by
    simp only [pushL]
    rw [pushL_old (by simp; omega), AS.get_push, if_neg (by omega)]
theorem pushL_new : ∀ {l : List AObj} {s : AS} {i : Nat} {o : AObj}, l[i]? = some o → (pushL s l).get (s.nx + i) = some o
  | o :: l, s, 0, q, h => by
    simp only [List.getElem?_cons_zero, Option.some.injEq] at h
    subst h
    simp only [pushL, Nat.add_zero]
    rw [pushL_old (by simp), AS.get_push, if_pos rfl]
  | o :: l, s, i + 1, q, h => by
    simp only [pushL]
    have := pushL_new (l := l) (s := s.push o) (i := i) (o := q) (by simpa using h)
    rw [← this]
    congr 1
    simp only [AS.nx_push]
    omega
  | [], _, _, _, h => by simp at h

mutual
theorem ren_congr {p : Nat → Bool} {π π' : Nat → Nat} (h : ∀ b, p b = true → π b = π' b) : ∀ {a : AV}, a.names p = true → a.ren π = a.ren π'
  | .bool _, _ => rfl
  | .int _ _, _ => rfl
  | .str _, _ => rfl
  | .nilPtr, _ => rfl
  | .ptr b _, hp => by simp only [AV.ren, h b hp]
  | .nilSlice, _ => rfl
  | .slice b _ _ _, hp => by simp only [AV.ren, h b hp]
  | .osl b _ _ _, hp => by simp only [AV.ren, h b hp]
  | .nilMap, _ => rfl
  | .map b, hp => by simp only [AV.ren, h b hp]
  | .func _ fs cs, hp => by
    simp only [AV.names, Bool.and_eq_true] at hp
    simp only [AV.ren, rens_congr h hp.1, rens_congr h hp.2]
  | .nilFunc, _ => rfl
  | .iface _ x, hp => by simp only [AV.ren, ren_congr h (a := x) (by simpa [AV.names] using hp)]
  | .nilIface, _ => rfl
  | .agg cs, hp => by simp only [AV.ren, rens_congr h (l := cs) (by simpa [AV.names] using hp)]
  | .tuple cs, hp => by simp only [AV.ren, rens_congr h (l := cs) (by simpa [AV.names] using hp)]
theorem rens_congr {p : Nat → Bool} {π π' : Nat → Nat} (h : ∀ b, p b = true → π b = π' b) : ∀ {l : List AV}, namess p l = true → rens π l = rens π' l
  | [], _ => rfl
  | a :: l, hp => by
    simp only [namess, Bool.and_eq_true] at hp
    simp only [rens, ren_congr h hp.1, rens_congr h hp.2]
end
theorem renE_congr {p : Nat → Bool} {π π' : Nat → Nat} (h : ∀ b, p b = true → π b = π' b) : ∀ {l : List (AV × AV)}, namesE p l = true → renE π l = renE π' l
  | [], _ => rfl
  | (k, v) :: l, hp => by
    simp only [namesE, Bool.and_eq_true] at hp
    simp only [renE, ren_congr h hp.1.1, ren_congr h hp.1.2, renE_congr h hp.2]
theorem oren_congr {p : Nat → Bool} {π π' : Nat → Nat} (h : ∀ b, p b = true → π b = π' b) {o : AObj} (hp : o.names p = true) : o.ren π = o.ren π' := by
  cases o with
  | cells ro cs => simp only [AObj.ren, rens_congr h (l := cs) hp]
  | map es => simp only [AObj.ren, renE_congr h (l := es) hp]
  | dead => rfl
@[simp] theorem ren_rw {π : Nat → Nat} {o : AObj} : (o.ren π).rw = o.rw := by cases o <;> rfl

theorem ERel.back {π : Nat → Nat} {p : Nat → Bool} {ρ ρ' : Ren} (h : ∀ b L, p b = true → ρ' (π b) = some L → ρ b = some L) : ∀ {es : List (AV × AV)} {l : List MapEntry}, namesE p es = true → ERel ρ' (renE π es) l → ERel ρ es l
  | [], _, _, he => he
  | (k, v) :: es, l, hp, he => by
    simp only [namesE, Bool.and_eq_true] at hp
    obtain ⟨e, r, h1, h2, h3, h4⟩ := he
    exact ⟨e, r, h1, h2.back h hp.1.1, h3.back h hp.1.2, ERel.back h hp.2 h4⟩
theorem OO.back {π : Nat → Nat} {p : Nat → Bool} {ρ ρ' : Ren} (h : ∀ b L, p b = true → ρ' (π b) = some L → ρ b = some L) {o : AObj} {L : Loc} {c : Obj} (hp : o.names p = true) (ho : OO ρ' (o.ren π) L c) : OO ρ o L c := by
  cases o with
  | cells ro cs =>
    obtain ⟨arr, e, fz, h1, h2, h3, vs, h4, h5⟩ := ho
    exact ⟨arr, e, fz, h1, h2, h3, vs, h4.back h hp, h5⟩
  | map es =>
    obtain ⟨ents, h1, h2, h3⟩ := ho
    exact ⟨ents, h1, h2.back h hp, h3⟩
  | dead => trivial

def objAt (s : AS) (b : Nat) : AObj := (s.get b).getD .dead

theorem nodup_map_on {f : Nat → Nat} : ∀ {l : List Nat}, (∀ b ∈ l, ∀ c ∈ l, f b = f c → b = c) → l.Nodup → (l.map f).Nodup
  | [], _, _ => by simp
  | x :: l, h, hn => by
    simp only [List.nodup_cons] at hn
    simp only [List.map_cons, List.nodup_cons]
    refine ⟨fun hm => ?_, nodup_map_on (fun b hb c hc => h b (by simp [hb]) c (by simp [hc])) hn.2⟩
    obtain ⟨y, hy, he⟩ := List.mem_map.1 hm
    have := h y (by simp [hy]) x (by simp) he
    exact hn.1 (this ▸ hy)

section
variable {P : Program}
/-- Where a call's blocks lie in its caller's state, and what becomes of them. -/
structure Placed (P : Program) (s0 s1 s : AS) (π π' : Nat → Nat) (foot new : List Nat) (p : Nat → Bool) : Prop where
  glob : ∀ g, g < P.globals.size → g < s0.nx ∧ π g = g
  keys : ∀ k ∈ s0.h.bs.map (·.1), k < s0.nx
  inj : ∀ b ∈ foot, ∀ c ∈ foot, π b = π c → b = c
  nodup : foot.Nodup
  ro : ∀ b o, s0.get b = some o → b ∉ foot → ∃ cs ro, o = .cells true cs ∧ namess (fun b => Nat.blt b s0.nx) cs = true ∧ s.get (π b) = some (.cells ro (rens π cs)) ∧ ∀ c ∈ foot, π c ≠ π b
  rw : ∀ b ∈ foot, ∃ o, s0.get b = some o ∧ o.rw = true ∧ o.names (fun b => Nat.blt b s0.nx) = true ∧ s.get (π b) = some (o.ren π)
  newNodup : new.Nodup
  fresh : ∀ b ∈ new, s0.nx ≤ b ∧ (objAt s1 b).rw = true ∧ (objAt s1 b).names p = true
  low : ∀ b, b < s0.nx → π' b = π b
  high : ∀ i b, new[i]? = some b → π' b = s.nx + i
  names : ∀ b, p b = true → b < s0.nx ∨ b ∈ new
  old : ∀ b ∈ foot, ((objAt s1 b).rw = true ∨ objAt s1 b = .dead) ∧ (objAt s1 b).names p = true

theorem Sound.frame2 {f : FuncId} {args : List AV} {s0 : AS} {e : AExit} {v : AV} {s1 : AS} (h : Sound P (.call f args s0) ⟨e, [v], s1⟩) {π π' : Nat → Nat} {s : AS} {foot new : List Nat} {p : Nat → Bool}
    (H : Placed P s0 s1 s π π' foot new p) (ha : namess (fun b => Nat.blt b s0.nx) args = true) (hv : v.names p = true) (e' : AExit) :
    Sound P (.call f (rens π args) s) ⟨e', [v.ren π'], pushL (setL s (foot.map fun b => (π b, (objAt s1 b).ren π'))) (new.map fun b => (objAt s1 b).ren π')⟩ := by
  intro B ρ cargs w R hc
  have lt : ∀ {b : Nat}, Nat.blt b s0.nx = true → b < s0.nx := fun h => by simpa using h
  -- the callee's view
  let F : Nat → Prop := fun k => ∃ b ∈ foot, ∃ L, ρ (π b) = some L ∧ L.c = k
  let B0 : Base := ⟨w, fun k => k < w.heap.size ∧ ¬ F k, fun _ h => h.1⟩
  let ρ0 : Ren := fun b => if b < s0.nx then ρ (π b) else none
  have inv : ∀ {b L}, ρ0 b = some L → b < s0.nx ∧ ρ (π b) = some L := by
    intro b L h
    simp only [ρ0] at h
    split at h
    · exact ⟨‹_›, h⟩
    · cases h
  have mk : ∀ {b}, b < s0.nx → ρ0 b = ρ (π b) := fun h => if_pos h
  have footF : ∀ {b L}, b ∈ foot → ρ (π b) = some L → F L.c := fun hb hL => ⟨_, hb, _, hL, rfl⟩
  have footK : ∀ {k}, F k → ¬ B.K k := by
    rintro k ⟨b, hb, L, hL, rfl⟩
    obtain ⟨o, _, hr, _, hs⟩ := H.rw b hb
    exact R.own _ _ L hs (by simpa using hr) hL
  have footKey : ∀ {b}, b ∈ foot → b < s0.nx := fun hb => by
    obtain ⟨o, hs, _⟩ := H.rw _ hb
    exact H.keys _ (getB_mem hs)
  have isFoot : ∀ {b o}, s0.get b = some o → o.rw = true → b ∈ foot := by
    intro b o hs hr
    by_cases hb : b ∈ foot
    · exact hb
    · obtain ⟨cs, ro, rfl, _⟩ := H.ro b o hs hb
      simp [AObj.rw] at hr
  have bk : ∀ b L, (fun b => Nat.blt b s0.nx) b = true → ρ (π b) = some L → ρ0 b = some L := fun b L hb hL => by rw [mk (lt hb)]; exact hL
  have R0 : Rel P B0 ρ0 s0 w := by
    refine ⟨.refl _ _, fun g hg => ?_, fun b hb => if_neg (Nat.not_lt.2 hb), H.keys, fun b L hb => R.lt _ L (inv hb).2, fun b o L hb hL => ?_, fun b o L hb hr hL hK => hK.2 (footF (isFoot hb hr) (inv hL).2), fun b cs L hb hL => ⟨R.lt _ L (inv hL).2, ?_⟩, fun b b' o o' L L' hb hb' hr hr' hL hL' he => ?_⟩
    · obtain ⟨h1, h2⟩ := H.glob g hg
      rw [mk h1, h2]
      exact R.glob g hg
    · by_cases hf : b ∈ foot
      · obtain ⟨o', h1, _, h3, h4⟩ := H.rw b hf
        rw [hb] at h1
        simp only [Option.some.injEq] at h1
        subst h1
        obtain ⟨c, k1, k2⟩ := R.obj _ _ L h4 (inv hL).2
        exact ⟨c, k1, OO.back (p := fun b => Nat.blt b s0.nx) bk h3 k2⟩
      · obtain ⟨cs, ro, rfl, hn, hs, _⟩ := H.ro b o hb hf
        obtain ⟨c, hc1, arr, el, fz, rfl, h2, _, vs, h4, h5⟩ := R.obj _ _ _ hs (inv hL).2
        exact ⟨_, hc1, arr, el, fz, rfl, h2, by simp, vs, VRels.back (p := fun b => Nat.blt b s0.nx) bk hn h4, h5⟩
    · rintro ⟨c, hcf, L', hL', he⟩
      have hbf : b ∉ foot := fun hf => by
        obtain ⟨o', h1, h2, _⟩ := H.rw b hf
        rw [hb] at h1
        simp only [Option.some.injEq] at h1
        subst h1
        simp [AObj.rw] at h2
      obtain ⟨cs', ro, _, _, hs, hne⟩ := H.ro b _ hb hbf
      obtain ⟨oc, _, hr, _, hsc⟩ := H.rw c hcf
      cases ro with
      | false => exact hne c hcf (R.inj _ _ _ _ L' L hsc hs (by simpa using hr) rfl hL' (inv hL).2 he)
      | true => exact footK ⟨c, hcf, L', hL', rfl⟩ (he ▸ R.ros _ _ L hs (inv hL).2)
    · have f1 := isFoot hb hr
      have f2 := isFoot hb' hr'
      obtain ⟨_, _, q1, _, q2⟩ := H.rw b f1
      obtain ⟨_, _, q3, _, q4⟩ := H.rw b' f2
      exact H.inj b f1 b' f2 (R.inj _ _ _ _ L L' q2 q4 (by simpa using q1) (by simpa using q3) (inv hL).2 (inv hL').2 he)
  have hargs : VRels ρ0 args cargs := VRels.back (p := fun b => Nat.blt b s0.nx) bk ha hc
  refine Calls.mono (h B0 ρ0 cargs w R0 hargs) fun en w' hr => ?_
  obtain ⟨v', u, ρ1, e1, e2, e3, e4⟩ := hr
  simp only [List.cons.injEq, and_true] at e1
  subst e1
  have R1 := e4.rel
  -- behind it
  let ρ2 : Ren := fun b => if b < s.nx then ρ b else (new[b - s.nx]?).bind ρ1
  have ext2 : ∀ b, b < s.nx → ρ2 b = ρ b := fun b hb => if_pos hb
  have mono2 := ext_mono R.fresh ext2
  have new2 : ∀ i b, new[i]? = some b → ρ2 (s.nx + i) = ρ1 b := by
    intro i b hi
    simp only [ρ2]
    rw [if_neg (by omega), show s.nx + i - s.nx = i from by omega, hi]
    rfl
  have re : ∀ b L, p b = true → ρ1 b = some L → ρ2 (π' b) = some L := by
    intro b L hp hL
    rcases H.names b hp with hb | hb
    · rw [e4.ext b hb, mk hb] at hL
      rw [H.low b hb]
      exact mono2 _ _ hL
    · obtain ⟨i, hi⟩ := List.getElem?_of_mem hb
      rw [H.high i b hi, new2 i b hi]
      exact hL
  have hsh : Shape s (pushL (setL s (foot.map fun b => (π b, (objAt s1 b).ren π'))) (new.map fun b => (objAt s1 b).ren π')) := (setL_shape _ _).trans (pushL_shape _ _)
  have hnx : (pushL (setL s (foot.map fun b => (π b, (objAt s1 b).ren π'))) (new.map fun b => (objAt s1 b).ren π')).nx = s.nx + new.length := by rw [pushL_nx, setL_nx]; simp
  have hnd : ((foot.map fun b => (π b, (objAt s1 b).ren π')).map (·.1)).Nodup := by
    rw [List.map_map]
    exact nodup_map_on (fun b hb c hc' he => H.inj b hb c hc' he) H.nodup
  have getF : ∀ b ∈ foot, (pushL (setL s (foot.map fun b => (π b, (objAt s1 b).ren π'))) (new.map fun b => (objAt s1 b).ren π')).get (π b) = some ((objAt s1 b).ren π') := by
    intro b hb
    obtain ⟨o, _, _, _, hs⟩ := H.rw b hb
    rw [pushL_old (by rw [setL_nx]; exact R.key_lt hs)]
    exact setL_at hnd (List.mem_map.2 ⟨b, hb, rfl⟩) hs
  have getO : ∀ b, b < s.nx → (∀ c ∈ foot, π c ≠ b) → (pushL (setL s (foot.map fun b => (π b, (objAt s1 b).ren π'))) (new.map fun b => (objAt s1 b).ren π')).get b = s.get b := by
    intro b hb hne
    rw [pushL_old (by rw [setL_nx]; exact hb)]
    refine setL_other fun hm => ?_
    rw [List.map_map] at hm
    obtain ⟨c, hcf, he⟩ := List.mem_map.1 hm
    exact hne c hcf he
  have getN : ∀ i b, new[i]? = some b → (pushL (setL s (foot.map fun b => (π b, (objAt s1 b).ren π'))) (new.map fun b => (objAt s1 b).ren π')).get (s.nx + i) = some ((objAt s1 b).ren π') := by
    intro i b hi
    have := pushL_new (l := new.map fun b => (objAt s1 b).ren π') (s := setL s (foot.map fun b => (π b, (objAt s1 b).ren π'))) (i := i) (o := (objAt s1 b).ren π') (by rw [List.getElem?_map, hi]; rfl)
    rw [setL_nx] at this
    exact this
  have keys' : ∀ b ∈ keysOf (pushL (setL s (foot.map fun b => (π b, (objAt s1 b).ren π'))) (new.map fun b => (objAt s1 b).ren π')), b < s.nx + new.length := by
    intro b hb
    obtain ⟨ks, h1, _, h3⟩ := hsh.keys
    rw [h1] at hb
    rcases List.mem_append.1 hb with hb | hb
    · have := (h3 b hb).2
      rw [hnx] at this
      exact this
    · have : b < s.nx := R.keys b hb
      omega
  have from_ : ∀ b o, (pushL (setL s (foot.map fun b => (π b, (objAt s1 b).ren π'))) (new.map fun b => (objAt s1 b).ren π')).get b = some o →
      (∃ c ∈ foot, b = π c ∧ o = (objAt s1 c).ren π') ∨ (b < s.nx ∧ (∀ c ∈ foot, π c ≠ b) ∧ s.get b = some o) ∨ (∃ i c, new[i]? = some c ∧ b = s.nx + i ∧ o = (objAt s1 c).ren π') := by
    intro b o hb
    have hlt := keys' b (getB_mem hb)
    by_cases hbs : b < s.nx
    · by_cases hex : ∃ c ∈ foot, π c = b
      · obtain ⟨c, hcf, rfl⟩ := hex
        rw [getF c hcf] at hb
        simp only [Option.some.injEq] at hb
        exact .inl ⟨c, hcf, rfl, hb.symm⟩
      · have hne : ∀ c ∈ foot, π c ≠ b := fun c hcf he => hex ⟨c, hcf, he⟩
        rw [getO b hbs hne] at hb
        exact .inr (.inl ⟨hbs, hne, hb⟩)
    · have hi : b - s.nx < new.length := by omega
      have hget : new[b - s.nx]? = some new[b - s.nx] := List.getElem?_eq_getElem hi
      have hb' := getN _ _ hget
      rw [show s.nx + (b - s.nx) = b from by omega, hb] at hb'
      simp only [Option.some.injEq] at hb'
      exact .inr (.inr ⟨b - s.nx, _, hget, by omega, hb'⟩)
  have objR : ∀ c L, (objAt s1 c).names p = true → ρ1 c = some L → OM ρ2 ((objAt s1 c).ren π') L w' := by
    intro c L hp hL
    cases hs : s1.get c with
    | none =>
      have : objAt s1 c = .dead := by simp [objAt, hs]
      rw [this]
      exact ⟨_, Array.getElem?_eq_getElem (R1.lt c L hL), trivial⟩
    | some o =>
      have : objAt s1 c = o := by simp [objAt, hs]
      rw [this] at hp ⊢
      obtain ⟨k, k1, k2⟩ := R1.obj c o L hs hL
      exact ⟨k, k1, k2.re re hp⟩
  have some1 : ∀ c, (objAt s1 c).rw = true → s1.get c = some (objAt s1 c) := by
    intro c hr
    cases hs : s1.get c with
    | none => simp [objAt, hs, AObj.rw] at hr
    | some o => simp [objAt, hs]
  have foot1 : ∀ c ∈ foot, ρ1 c = ρ (π c) := fun c hcf => by rw [e4.ext c (footKey hcf), mk (footKey hcf)]
  have newF : ∀ c ∈ new, ∀ L, ρ1 c = some L → ¬ (L.c < w.heap.size ∧ ¬ F L.c) := fun c hcn L hL => R1.own c _ L (some1 c (H.fresh c hcn).2.1) (H.fresh c hcn).2.1 hL
  have footLt : ∀ c ∈ foot, π c < s.nx := fun c hcf => by
    obtain ⟨o, _, _, _, hs⟩ := H.rw c hcf
    exact R.key_lt hs
  have oldNew : ∀ {x y i c : Nat} {o : AObj} {Lx Ly : Loc}, (pushL (setL s (foot.map fun b => (π b, (objAt s1 b).ren π'))) (new.map fun b => (objAt s1 b).ren π')).get x = some o → o.rw = true → x < s.nx → new[i]? = some c → y = s.nx + i → ρ2 x = some Lx → ρ2 y = some Ly → Lx.c = Ly.c → False := by
    intro x y i c o Lx Ly hx hr hxs hi hy hLx hLy he
    subst hy
    rw [ext2 x hxs] at hLx
    rw [new2 i c hi] at hLy
    have hcn : c ∈ new := List.mem_of_getElem? hi
    have hno := newF c hcn Ly hLy
    have hlx := R.lt x Lx hLx
    have hF : F Ly.c := by
      by_cases hF : F Ly.c
      · exact hF
      · exact absurd ⟨by omega, hF⟩ hno
    obtain ⟨c2, hc2, L2, hL2, he2⟩ := hF
    obtain ⟨oc, hs0, hr2, _, hsc⟩ := H.rw c2 hc2
    rcases from_ x o hx with ⟨c3, hc3, rfl, rfl⟩ | ⟨_, hne, hsx⟩ | ⟨j, _, _, hj, _⟩
    · obtain ⟨oc3, _, hr3, _, hsc3⟩ := H.rw c3 hc3
      have : c2 = c3 := H.inj c2 hc2 c3 hc3 (R.inj _ _ _ _ L2 Lx hsc hsc3 (by simpa using hr2) (by simpa using hr3) hL2 hLx (by rw [he2, he]))
      subst this
      have hr1 : (objAt s1 c2).rw = true := by simpa using hr
      have := R1.inj c2 c _ _ Lx Ly (some1 c2 hr1) (some1 c (H.fresh c hcn).2.1) hr1 (H.fresh c hcn).2.1 (by rw [foot1 c2 hc2]; exact hLx) hLy he
      have h1 := footKey hc2
      have h2 := (H.fresh c hcn).1
      omega
    · exact hne c2 hc2 (R.inj _ _ _ _ L2 Lx hsc hsx (by simpa using hr2) hr hL2 hLx (by rw [he2, he]))
    · omega
  refine ⟨_, u, ρ2, rfl, e2, e3.re re hv, ⟨⟨?_, ?_, ?_, ?_, ?_, ?_, ?_, ?_, ?_⟩, ext2, ?_, hsh, e4.size⟩⟩
  · have hk := R1.below
    exact R.below.trans ⟨hk.os, hk.tape, hk.output, hk.size, fun k hK => hk.block k ⟨R.K_lt k hK, fun hF => footK hF hK⟩⟩
  · intro g hg
    obtain ⟨M, h1, h2⟩ := R.glob g hg
    exact ⟨M, mono2 _ _ h1, h2⟩
  · intro b hb
    rw [hnx] at hb
    simp only [ρ2]
    rw [if_neg (by omega), List.getElem?_eq_none (by omega)]
    rfl
  · intro k hk
    rw [hnx]
    exact keys' k hk
  · intro b L hL
    by_cases hb : b < s.nx
    · rw [ext2 b hb] at hL
      exact Nat.lt_of_lt_of_le (R.lt b L hL) e4.size
    · simp only [ρ2] at hL
      rw [if_neg hb] at hL
      cases hi : new[b - s.nx]? with
      | none => rw [hi] at hL; cases hL
      | some c =>
        rw [hi] at hL
        exact R1.lt c L hL
  · intro b o L hb hL
    rcases from_ b o hb with ⟨c, hcf, rfl, rfl⟩ | ⟨hbs, hne, hs⟩ | ⟨i, c, hi, rfl, rfl⟩
    · rw [ext2 _ (footLt c hcf)] at hL
      exact objR c L (H.old c hcf).2 (by rw [foot1 c hcf]; exact hL)
    · rw [ext2 b hbs] at hL
      obtain ⟨k, k1, k2⟩ := R.obj b o L hs hL
      have keep : ¬ F L.c → OM ρ2 o L w' := fun hF => ⟨k, by rw [R1.below.block L.c ⟨R.lt b L hL, hF⟩]; exact k1, k2.mono mono2⟩
      cases hr : o.rw with
      | true =>
        refine keep ?_
        rintro ⟨c, hcf, L', hL', he⟩
        obtain ⟨oc, _, hr2, _, hsc⟩ := H.rw c hcf
        exact hne c hcf (R.inj _ _ _ _ L' L hsc hs (by simpa using hr2) hr hL' hL he)
      | false =>
        cases o with
        | cells ro cs =>
          have : ro = true := by simpa [AObj.rw] using hr
          subst this
          exact keep fun hF => footK hF (R.ros b cs L hs hL)
        | map es => simp [AObj.rw] at hr
        | dead => exact ⟨_, Array.getElem?_eq_getElem (Nat.lt_of_lt_of_le (R.lt b L hL) e4.size), trivial⟩
    · rw [new2 i c hi] at hL
      exact objR c L (H.fresh c (List.mem_of_getElem? hi)).2.2 hL
  · intro b o L hb hr hL
    rcases from_ b o hb with ⟨c, hcf, rfl, rfl⟩ | ⟨hbs, hne, hs⟩ | ⟨i, c, hi, rfl, rfl⟩
    · rw [ext2 _ (footLt c hcf)] at hL
      exact footK (footF hcf hL)
    · rw [ext2 b hbs] at hL
      exact R.own b o L hs hr hL
    · rw [new2 i c hi] at hL
      intro hK
      exact newF c (List.mem_of_getElem? hi) L hL ⟨R.K_lt _ hK, fun hF => footK hF hK⟩
  · intro b cs L hb hL
    rcases from_ b _ hb with ⟨c, hcf, rfl, ho⟩ | ⟨hbs, hne, hs⟩ | ⟨i, c, hi, rfl, ho⟩
    · exfalso
      have hq : (objAt s1 c).rw = false := by rw [← ren_rw (π := π'), ← ho]; rfl
      rcases (H.old c hcf).1 with h1 | h1
      · rw [h1] at hq; cases hq
      · rw [h1] at ho; cases ho
    · rw [ext2 b hbs] at hL
      exact R.ros b cs L hs hL
    · exfalso
      have hq : (objAt s1 c).rw = false := by rw [← ren_rw (π := π'), ← ho]; rfl
      rw [(H.fresh c (List.mem_of_getElem? hi)).2.1] at hq
      cases hq
  · intro x y q q' Lx Ly h1 h2 h3 h4 h5 h6 h7
    have old : ∀ {b o}, (pushL (setL s (foot.map fun b => (π b, (objAt s1 b).ren π'))) (new.map fun b => (objAt s1 b).ren π')).get b = some o → o.rw = true → b < s.nx → ∃ o', s.get b = some o' ∧ o'.rw = true := by
      intro b o hb hr hbs
      rcases from_ b o hb with ⟨c, hcf, rfl, rfl⟩ | ⟨_, _, hs⟩ | ⟨i, c, hi, rfl, rfl⟩
      · obtain ⟨oc, _, hr2, _, hsc⟩ := H.rw c hcf
        exact ⟨_, hsc, by simpa using hr2⟩
      · exact ⟨o, hs, hr⟩
      · omega
    have newI : ∀ {b o}, (pushL (setL s (foot.map fun b => (π b, (objAt s1 b).ren π'))) (new.map fun b => (objAt s1 b).ren π')).get b = some o → ¬ b < s.nx → ∃ i c, new[i]? = some c ∧ b = s.nx + i := by
      intro b o hb hbs
      rcases from_ b o hb with ⟨c, hcf, rfl, rfl⟩ | ⟨h, _⟩ | ⟨i, c, hi, rfl, _⟩
      · exact absurd (footLt c hcf) hbs
      · exact absurd h hbs
      · exact ⟨i, c, hi, rfl⟩
    by_cases hx : x < s.nx
    · by_cases hy : y < s.nx
      · obtain ⟨o1, a1, a2⟩ := old h1 h3 hx
        obtain ⟨o2, b1, b2⟩ := old h2 h4 hy
        rw [ext2 x hx] at h5
        rw [ext2 y hy] at h6
        exact R.inj x y o1 o2 Lx Ly a1 b1 a2 b2 h5 h6 h7
      · obtain ⟨i, c, hi, hy'⟩ := newI h2 hy
        exact (oldNew h1 h3 hx hi hy' h5 h6 h7).elim
    · obtain ⟨i, c, hi, hx'⟩ := newI h1 hx
      by_cases hy : y < s.nx
      · exact (oldNew h2 h4 hy hi hx' h6 h5 h7.symm).elim
      · obtain ⟨j, d, hj, hy'⟩ := newI h2 hy
        rw [hx', new2 i c hi] at h5
        rw [hy', new2 j d hj] at h6
        have hc1 := H.fresh c (List.mem_of_getElem? hi)
        have hd1 := H.fresh d (List.mem_of_getElem? hj)
        have := R1.inj c d _ _ Lx Ly (some1 c hc1.2.1) (some1 d hd1.2.1) hc1.2.1 hd1.2.1 h5 h6 h7
        subst this
        have hij : i = j := by
          obtain ⟨hi1, hi2⟩ := List.getElem?_eq_some_iff.1 hi
          obtain ⟨hj1, hj2⟩ := List.getElem?_eq_some_iff.1 hj
          exact (List.getElem_inj H.newNodup).1 (hi2.trans hj2.symm)
        omega
  · intro b hb hn
    by_cases hex : ∃ c ∈ foot, π c = b
    · obtain ⟨c, hcf, rfl⟩ := hex
      obtain ⟨o, hs0, hr, hp, hs⟩ := H.rw c hcf
      rw [getF c hcf, hs]
      have h0 : ρ0 c = none := by rw [mk (footKey hcf)]; exact hn
      have := e4.unt c (footKey hcf) h0
      have hobj : objAt s1 c = o := by simp [objAt, this, hs0]
      rw [hobj, oren_congr (p := fun b => Nat.blt b s0.nx) (fun b hb' => (H.low b (lt hb')).symm) hp]
    · exact getO b hb fun c hcf he => hex ⟨c, hcf, he⟩
end
end Go.Mini

namespace Go.Mini
open Go Go.RowKit

/-! ### a state seen with less in it: blocks and slots that nobody asks for any more are left out -/
def isAgg : AV → Bool
  | .agg _ => true
  | _ => false
section
variable {P : Program} {B : Base} {ρ ρ1 : Ren} {s s1 s2 : AS} {w w1 : World} {π : Nat → Nat}
end

theorem renE_id : ∀ l : List (AV × AV), renE (fun b => b) l = l
  | [] => rfl
  | (k, v) :: l => by simp only [renE, ren_id k, ren_id v, renE_id l]
theorem oren_id (o : AObj) : o.ren (fun b => b) = o := by cases o <;> simp only [AObj.ren, rens_id, renE_id]
theorem getB_none {b : Nat} : ∀ {l : List (Nat × AObj)}, b ∉ l.map (·.1) → getB l b = none
  | [], _ => rfl
  | x :: t, h => by
    simp only [List.map_cons, List.mem_cons, not_or] at h
    simp only [getB]
    split
    · rename_i hx
      exact absurd (Nat.eq_of_beq_eq_true hx).symm h.1
    · exact getB_none h.2
end Go.Mini

namespace Go.Mini
open Go Go.RowKit

mutual
theorem names_any : ∀ a : AV, a.names (fun _ => true) = true
  | .bool _ => rfl
  | .int _ _ => rfl
  | .str _ => rfl
  | .nilPtr => rfl
  | .ptr _ _ => rfl
  | .nilSlice => rfl
  | .slice _ _ _ _ => rfl
  | .osl _ _ _ _ => rfl
  | .nilMap => rfl
  | .map _ => rfl
  | .func _ fs cs => by simp only [AV.names, namess_any fs, namess_any cs, Bool.and_self]
  | .nilFunc => rfl
  | .iface _ x => by simp only [AV.names, names_any x]
  | .nilIface => rfl
  | .agg cs => by simp only [AV.names, namess_any cs]
  | .tuple cs => by simp only [AV.names, namess_any cs]
theorem namess_any : ∀ l : List AV, namess (fun _ => true) l = true
  | [] => rfl
  | a :: l => by simp only [namess, names_any a, namess_any l, Bool.and_self]
end
section
variable {P : Program}
end

/-- The k-th loop of code, counted as it is read; what it repeats. -/
def loopsOf : Code → List Code
  | .seq a b => loopsOf a ++ loopsOf b
  | .cond _ a b => loopsOf a ++ loopsOf b
  | .block _ c => loopsOf c
  | .loop c => c :: loopsOf c
  | .scope c => loopsOf c
  | _ => []
def loopAt (P : Program) (f k : Nat) : Code := match P.funcs[f]? with
  | some fn => match fn.body with
    | some c => (loopsOf c).getD k .skip
    | none => .skip
  | none => .skip

/-! ### elements of rows -/
section
variable {P : Program}
theorem idx_slice {t elem : TypeId} {b o len cap k sz : Nat} {kk : IntKind} (h1 : P.underlying t = some (.slice elem)) (h2 : sizeA P elem = some sz) (hk : k < len) :
    indexAddrA P t (.slice b o len cap) (.int kk (Int.ofNat k)) = some (.ptr b (o + k * sz)) := by
  simp only [indexAddrA, h1, h2]
  rw [if_pos ⟨by simp, by simpa using hk⟩]
  simp
theorem ld_cell {s : AS} {t : TypeId} {b o : Nat} {ro : Bool} {cs : List AV} {v : AV} (h1 : isAggA P t = some false) (h2 : s.get b = some (.cells ro cs)) (h3 : cs[o]? = some v) : loadA P s t (.ptr b o) = some v := by
  simp only [loadA, h1, h2, h3]
theorem takeN_row : ∀ {n : Nat} {a b : List AV}, a.length = n → takeN n (a ++ b) = some a
  | 0, a, b, h => by
    have : a = [] := List.eq_nil_of_length_eq_zero h
    subst this
    rfl
  | n + 1, [], b, h => by simp at h
  | n + 1, x :: a, b, h => by
    simp only [List.cons_append, takeN, takeN_row (n := n) (a := a) (b := b) (by simpa using h)]
/-! ### maps of one entry, whose key is a number -/
end
end Go.Mini

