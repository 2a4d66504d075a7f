/- slices.Sorted of the keys of a map that has some. Conditions: those that each theorem names, and no others. -/
import Derived.Test.YthooafgfpnedhaaVoid2
namespace Go.Proofs.Ythooafgfpnedhaa.specsVoid
open Go Go.Mini Go.Proofs Go.RowKit Go.Maps Go.Sort Go.Shelf
/-! ### slices.Sorted(maps.Keys(m)), told to the interpreter -/
/-- A row of numbers in a block that a call made: it is one of ours. -/
theorem rel_row {B : Base} {ρ : Mini.Ren} {s : AS} {w W : World} (R : Rel Try.prog B ρ s w) (hb : Below w.heap.size w W) {v : Value} {ss : List Int} (hrow : W.ownsRow w.heap.size 22 1 v ss.length (ss.map encU)) (hne : ss ≠ []) :
    ∃ ρ1, VRel ρ1 (.osl s.nx 0 ss.length 1) v ∧ Post Try.prog B ρ s w ρ1 (s.push (.cells false (ss.map uI))) W := by
  rcases hrow.2 with ⟨_, hz⟩ | ⟨gb, cap, cur, rfl, hbase, hgb, r1, r2, r3, r4⟩
  · exact absurd (List.eq_nil_of_length_eq_zero hz) hne
  · have hlt : gb < W.heap.size := (Array.getElem?_eq_some_iff.1 hgb).1
    have hf : ρ s.nx = none := R.fresh _ (Nat.le_refl _)
    have hvs : ∀ (l : List Int) (σ : Mini.Ren), VRels σ (l.map uI) (l.map encU) := by
      intro l σ
      induction l with
      | nil => exact vrels_nil.2 rfl
      | cons x l ih => exact vrels_cons.2 ⟨_, _, rfl, by rw [uI, vrel_int], ih⟩
    have hR := R.pushAt (w' := W) (o := .cells false (ss.map uI)) (L := ⟨gb, 0, cur.size⟩) rfl (fun hK => by have := R.K_lt gb hK; omega) hlt
      (fun b o' L' h1 h2 h3 e => by have := R.lt b L' h3; have e : L'.c = gb := e; omega)
      ⟨hb.os, hb.tape, hb.output, hb.size, fun k hk => hb.block k (R.K_lt k hk)⟩
      (fun k _ hk => hb.block k hk)
      ⟨_, hgb, cur, 22, (0, 0), rfl, rfl, fun _ => rfl, ss.map encU, hvs ss ρ, fun i x hi => by
        have h4 : cur.toList.take ss.length = ss.map encU := by simpa using r4
        have hl : i < ss.length := by have := (List.getElem?_eq_some_iff.1 hi).1; simpa using this
        rw [Nat.zero_add, ← Array.getElem?_toList]
        rw [← h4, List.getElem?_take] at hi
        rw [if_pos hl] at hi
        exact hi⟩
    refine ⟨_, ?_, ⟨hR, fun b hb' => by unfold upd; rw [if_neg (by omega)], fun b hb' hn => by rw [get_push, if_neg (by omega)], Shape.push s _, hb.size⟩⟩
    rw [vrel_osl]
    refine ⟨⟨gb, 0, cur.size⟩, 0, cap, by unfold upd; rw [if_pos rfl], rfl, r1, by show 0 + cap * 1 ≤ cur.size; omega, fun _ => rfl⟩
/-- What sorts a row of numbers. -/
def SortsU (n : Nat) : Prop := ∀ (L : List Int), L.length = n → L.Nodup → (∀ x ∈ L, (Lit.int .u64 x).wf = true) → ∀ (s : AS) (b : Nat), s.get b = some (.cells false (L.map uI)) →
  Sound Try.prog (.call 54 [.osl b 0 n 1] s) ⟨.ret, [undefA], s.set b (.cells false ((L.mergeSort fun x y => decide (x ≤ y)).map uI))⟩
def SortsN : Prop := ∀ s : AS, Sound Try.prog (.call 54 [.nilSlice] s) ⟨.ret, [undefA], s⟩
def keysOfM (M : List (Int × Int)) : List Int := (M.map (·.1)).mergeSort fun x y => decide (x ≤ y)
theorem sort_perm {l l' : List Int} (h : l.Perm l') : (l.mergeSort fun x y => decide (x ≤ y)) = l'.mergeSort fun x y => decide (x ≤ y) := by
  have tr : ∀ a b c : Int, decide (a ≤ b) = true → decide (b ≤ c) = true → decide (a ≤ c) = true := fun a b c h1 h2 => by simp only [decide_eq_true_eq] at *; omega
  have to : ∀ a b : Int, (decide (a ≤ b) || decide (b ≤ a)) = true := fun a b => by simp only [Bool.or_eq_true, decide_eq_true_eq]; omega
  refine List.Perm.eq_of_pairwise (le := fun a b => decide (a ≤ b) = true) (fun a b _ _ h1 h2 => ?_) (List.pairwise_mergeSort tr to l) (List.pairwise_mergeSort tr to l') (((List.mergeSort_perm l _).trans h).trans (List.mergeSort_perm l' _).symm)
  simp only [decide_eq_true_eq] at h1 h2
  omega
theorem keys_perm {H : Type} {D0 : DataW H} {M : List (Int × Int)} {ss : List Int} (h : KeysU D0 ss) (hk : (M.map (·.1)).Nodup) (hx : ∀ x : Int, has D0 (.int .u64 x) = true ↔ x ∈ M.map (·.1)) : ss.Perm (M.map (·.1)) :=
  (List.perm_ext_iff_of_nodup h.1 hk).2 fun x => by rw [h.2 x, hx x]
theorem set_push (s : AS) (a b o : AObj) : (s.push a).set s.nx o = (s.push b).set s.nx o := by
  simp [AS.push, AS.set, setB]
def oE : AObj := .cells false []
set_option maxHeartbeats 2000000 in
theorem sorted_some {s : AS} {bx bm : Nat} {ro : Bool} {M : List (Int × Int)} {bn : List Nat} {ck : Nat} (hk : MapOk M bn ck) (hx : s.get bx = some (.cells ro [.map bm])) (hm : s.get bm = some (.map (mapE .u64 .u64 M) bn ck)) (hne : M ≠ []) (hS : SortsU M.length) :
    Sound Try.prog (.call 28 [.func (.func 55) [] [.ptr bx 0]] s) ⟨.ret, [.osl s.nx 0 M.length 1], (s.push oE).set s.nx (.cells false ((keysOfM M).map uI))⟩ := by
  intro B ρ cargs w R hargs
  obtain ⟨fv, vs, rfl, h1, h2⟩ := vrels_cons.1 hargs
  have h2 := vrels_nil.1 h2
  subst h2
  obtain ⟨vs, ws, rfl, h3, h4⟩ := vrel_func.1 h1
  have h3 := vrels_nil.1 h3
  subst h3
  obtain ⟨u, us, rfl, h5, h6⟩ := vrels_cons.1 h4
  have h6 := vrels_nil.1 h6
  subst h6
  obtain ⟨L, hL, rfl⟩ := vrel_ptr.1 h5
  obtain ⟨c, hc, arr, e, fz, rfl, hsz, _, vs, hvs, hat⟩ := R.obj bx _ L hx hL
  obtain ⟨mv, vs', rfl, h7, _⟩ := vrels_cons.1 hvs
  obtain ⟨Lm, hLm, rfl⟩ := vrel_map.1 h7
  have hcell : w.cell? ⟨L.c, L.d, none⟩ = some (.map (some Lm.c)) := by
    have := hat 0 (.map (some Lm.c)) rfl
    rw [Nat.add_zero] at this
    simp [World.cell?, hc, this]
  obtain ⟨c2, hc2, ents, rfl, he, hbn⟩ := R.obj bm _ Lm hm hLm
  obtain ⟨D0, hown, hsize, hhas⟩ := owns_of hk hc2 he hbn
  have hmax : Maps.size D0 ≤ maxLen := by have := hk.len; rw [hsize]; unfold maxLen; omega
  have hbytes : Maps.size D0 * 8 ≤ 140737488355328 := by have := hk.len; rw [hsize]; omega
  obtain ⟨F, hF⟩ : ∃ F : Fence, F = Fence.wide := ⟨_, rfl⟩
  obtain ⟨n, hn⟩ : ∃ n : Nat, 6 ≤ n := ⟨6, Nat.le_refl _⟩
  have h28 : F.fn 28 := by rw [hF]; trivial
  have h53 : F.fn 53 := by rw [hF]; trivial
  have h54 : F.fn 54 := by rw [hF]; trivial
  have h55 : F.fn 55 := by rw [hF]; trivial
  have h59 : F.fn 59 := by rw [hF]; trivial
  have hro : F.round = none := by rw [hF]; rfl
  have h1 : 1 ≤ n := by omega
  have hseq : SeqGives F (n - 1 - 1 - 1) Try.prog 55 #[.pointer (some ⟨L.c, L.d, none⟩)] encU (fun ss => KeysU D0 ss) (Maps.size D0) w :=
    keys_gives F _ h55 hro (by omega) L.c L.d Lm.c M.length D0 w (R.lt bx L hL) hcell hown
  refine (callsIn_wide (n := n)).1 ?_
  rw [← hF]
  have HF : Hid (F = Fence.wide) := hF
  clear hF
  refine callsIn_of_wp Try.func28 rfl h28 ?_ hro
  simp only [Try.ntmps28, List.size_toArray, List.length_cons, List.length_nil, Nat.reduceAdd, Nat.reduceSub, Array.replicate_succ, Array.replicate_zero, List.push_toArray, List.append_toArray, List.nil_append, List.cons_append]
  gi_wp2_with (gi_at_call 53; refine (collect_in F (n - 1) h53 h59 hro (by omega) 55 _ h55 (enters_of Try.func55 (by kernel_rfl) rfl) _ _ hmax hbytes _ hseq.bounded).mono ?_; rintro e W ⟨v, ss, rfl, ⟨hS', hlen⟩, hrow, hnil, hb⟩)
  have hperm := keys_perm hS' hk.keys hhas
  have hsl : ss.length = M.length := by have := hperm.length_eq; simpa using this
  have hss : ss ≠ [] := fun e0 => by
    rw [e0] at hsl
    exact hne (List.eq_nil_of_length_eq_zero hsl.symm)
  obtain ⟨ρ1, hv1, hp1⟩ := rel_row R hb hrow hss
  have hmk : keysOfM M = ss.mergeSort fun x y => decide (x ≤ y) := (sort_perm hperm).symm
  have hwf : ∀ x ∈ ss, (Lit.int .u64 x).wf = true := fun x hx => by
    obtain ⟨z, hz, rfl⟩ := List.mem_map.1 (hperm.mem_iff.1 hx)
    exact (hk.wf z hz).1
  rw [hsl] at hv1
  have cS := hS ss hsl hS'.1 hwf (s.push (.cells false (ss.map uI))) s.nx (by simp [AS.push, AS.get, getB]) B ρ1 [v] W hp1.rel (vrels_cons.2 ⟨_, _, rfl, hv1, vrels_nil.2 rfl⟩)
  have cS := (callsIn_wide (n := n - 1)).2 cS
  have hF : F = Fence.wide := HF
  rw [← hF] at cS
  clear hF
  gi_wp2_with (gi_at_call 54; refine cS.mono ?_; rintro e w' ⟨v', u, ρ2, h1', rfl, h3', hp2⟩)
  go_ret
  refine ⟨_, v, ρ2, rfl, rfl, hv1.mono (hp2.mono hp1.rel), ?_⟩
  have := hp1.trans hp2
  rw [← hmk, set_push s _ oE] at this
  exact this
end Go.Proofs.Ythooafgfpnedhaa.specsVoid
