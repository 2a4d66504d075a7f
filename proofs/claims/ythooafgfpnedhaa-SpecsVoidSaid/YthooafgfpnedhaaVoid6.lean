/- slices.Sorted of the keys of a map that has none. Conditions: those that each theorem names, and no others. -/
import Derived.Test.YthooafgfpnedhaaVoid5
import Derived.Test.YthooafgfpnedhaaVoid3
namespace Go.Proofs.Ythooafgfpnedhaa.specsVoid
open Go Go.Mini Go.Proofs Go.RowKit Go.Maps Go.Sort Go.Shelf
/-! ### Sorted of the keys of a map that has none; rows of one -/
theorem sortsN : SortsN := fun s =>
  Sound.put (bs0 := []) (runX_sound mixed none_sound st_nil trivial) noG (fun b => b) [] s trivial (fun b hb => by cases hb) List.nodup_nil List.nodup_nil (fun b hb => by cases hb) rfl rfl
theorem sortsU1 : SortsU 1 := by
  intro L hl _ _ s b hs
  match L, hl with
  | [x], _ =>
    have h := Sound.put (bs0 := [(0, .cells false [.int .u64 x])]) (runX_sound mixed none_sound (st_one x) trivial) noG (fun _ => b) [] s ⟨⟨Nat.zero_lt_one, rfl, rfl, rfl, hs, .inl rfl, rfl⟩, trivial⟩ (fun a ha c hc _ => by simp at ha hc; omega) (by simp) List.nodup_nil (fun b hb => by cases hb) rfl rfl
    rw [List.mergeSort_singleton]
    exact h
set_option maxHeartbeats 2000000 in
theorem sorted_zero {s : AS} {bx bm : Nat} {ro : Bool} {bn : List Nat} {ck : Nat} (hk : MapOk [] bn ck) (hx : s.get bx = some (.cells ro [.map bm])) (hm : s.get bm = some (.map (mapE .u64 .u64 []) bn ck)) :
    Sound Try.prog (.call 28 [.func (.func 55) [] [.ptr bx 0]] s) ⟨.ret, [.nilSlice], s⟩ := by
  intro B ρ cargs w R hargs
  obtain ⟨fv, vs, rfl, h1, h2⟩ := vrels_cons.1 hargs
  have h2 := vrels_nil.1 h2
  subst h2
  obtain ⟨vs, ws, rfl, h3, h4⟩ := vrel_func.1 h1
  have h3 := vrels_nil.1 h3
  subst h3
  obtain ⟨u, us, rfl, h5, h6⟩ := vrels_cons.1 h4
  have h6 := vrels_nil.1 h6
  subst h6
  obtain ⟨L, hL, rfl⟩ := vrel_ptr.1 h5
  obtain ⟨c, hc, arr, e, fz, rfl, hsz, _, vs, hvs, hat⟩ := R.obj bx _ L hx hL
  obtain ⟨mv, vs', rfl, h7, _⟩ := vrels_cons.1 hvs
  obtain ⟨Lm, hLm, rfl⟩ := vrel_map.1 h7
  have hcell : w.cell? ⟨L.c, L.d, none⟩ = some (.map (some Lm.c)) := by
    have := hat 0 (.map (some Lm.c)) rfl
    rw [Nat.add_zero] at this
    simp [World.cell?, hc, this]
  obtain ⟨c2, hc2, ents, rfl, he, hbn⟩ := R.obj bm _ Lm hm hLm
  obtain ⟨D0, hown, hsize, hhas⟩ := owns_of hk hc2 he hbn
  have hmax : Maps.size D0 ≤ maxLen := by have := hk.len; rw [hsize]; unfold maxLen; omega
  have hbytes : Maps.size D0 * 8 ≤ 140737488355328 := by have := hk.len; rw [hsize]; omega
  obtain ⟨F, hF⟩ : ∃ F : Fence, F = Fence.wide := ⟨_, rfl⟩
  obtain ⟨n, hn⟩ : ∃ n : Nat, 6 ≤ n := ⟨6, Nat.le_refl _⟩
  have h28 : F.fn 28 := by rw [hF]; trivial
  have h53 : F.fn 53 := by rw [hF]; trivial
  have h54 : F.fn 54 := by rw [hF]; trivial
  have h55 : F.fn 55 := by rw [hF]; trivial
  have h59 : F.fn 59 := by rw [hF]; trivial
  have hro : F.round = none := by rw [hF]; rfl
  have h1 : 1 ≤ n := by omega
  have hseq : SeqGives F (n - 1 - 1 - 1) Try.prog 55 #[.pointer (some ⟨L.c, L.d, none⟩)] encU (fun ss => KeysU D0 ss) (Maps.size D0) w :=
    keys_gives F _ h55 hro (by omega) L.c L.d Lm.c ([] : List (Int × Int)).length D0 w (R.lt bx L hL) hcell hown
  refine (callsIn_wide (n := n)).1 ?_
  rw [← hF]
  have HF : Hid (F = Fence.wide) := hF
  clear hF
  refine callsIn_of_wp Try.func28 rfl h28 ?_ hro
  simp only [Try.ntmps28, List.size_toArray, List.length_cons, List.length_nil, Nat.reduceAdd, Nat.reduceSub, Array.replicate_succ, Array.replicate_zero, List.push_toArray, List.append_toArray, List.nil_append, List.cons_append]
  gi_wp2_with (gi_at_call 53; refine (collect_in F (n - 1) h53 h59 hro (by omega) 55 _ h55 (enters_of Try.func55 (by kernel_rfl) rfl) _ _ hmax hbytes _ hseq.bounded).mono ?_; rintro e W ⟨v, ss, rfl, ⟨hS', hlen⟩, hrow, hnil, hb⟩)
  have hperm := keys_perm hS' (by simp) hhas
  have hss : ss = [] := List.eq_nil_of_length_eq_zero (by have := hperm.length_eq; simpa using this)
  have hv : v = .slice none 0 0 := hnil.2 hss
  subst hv
  have R2 := R.grown (w' := W) ⟨hb.os, hb.tape, hb.output, hb.size, fun k hk => hb.block k hk⟩
  have cS := sortsN s B ρ [.slice none 0 0] W R2 (vrels_cons.2 ⟨_, _, rfl, vrel_nilSlice.2 rfl, vrels_nil.2 rfl⟩)
  have cS := (callsIn_wide (n := n - 1)).2 cS
  have hF : F = Fence.wide := HF
  rw [← hF] at cS
  clear hF
  gi_wp2_with (gi_at_call 54; refine cS.mono ?_; rintro e w' ⟨v', u, ρ2, h1', rfl, h3', hp2⟩)
  go_ret
  exact ⟨_, _, ρ2, rfl, rfl, vrel_nilSlice.2 rfl, (Post.grown R ⟨hb.os, hb.tape, hb.output, hb.size, fun k hk => hb.block k hk⟩).trans hp2⟩
set_option maxHeartbeats 2000000 in
theorem sorted_nil {s : AS} {bx : Nat} {ro : Bool} (hx : s.get bx = some (.cells ro [.nilMap])) :
    Sound Try.prog (.call 28 [.func (.func 55) [] [.ptr bx 0]] s) ⟨.ret, [.nilSlice], s⟩ := by
  intro B ρ cargs w R hargs
  obtain ⟨fv, vs, rfl, h1, h2⟩ := vrels_cons.1 hargs
  have h2 := vrels_nil.1 h2
  subst h2
  obtain ⟨vs, ws, rfl, h3, h4⟩ := vrel_func.1 h1
  have h3 := vrels_nil.1 h3
  subst h3
  obtain ⟨u, us, rfl, h5, h6⟩ := vrels_cons.1 h4
  have h6 := vrels_nil.1 h6
  subst h6
  obtain ⟨L, hL, rfl⟩ := vrel_ptr.1 h5
  obtain ⟨c, hc, arr, e, fz, rfl, hsz, _, vs, hvs, hat⟩ := R.obj bx _ L hx hL
  obtain ⟨mv, vs', rfl, h7, _⟩ := vrels_cons.1 hvs
  have h7 := vrel_nilMap.1 h7
  subst h7
  have hcell : w.cell? ⟨L.c, L.d, none⟩ = some (.map none) := by
    have := hat 0 (.map none) rfl
    rw [Nat.add_zero] at this
    simp [World.cell?, hc, this]
  obtain ⟨F, hF⟩ : ∃ F : Fence, F = Fence.wide := ⟨_, rfl⟩
  obtain ⟨n, hn⟩ : ∃ n : Nat, 6 ≤ n := ⟨6, Nat.le_refl _⟩
  have h28 : F.fn 28 := by rw [hF]; trivial
  have h53 : F.fn 53 := by rw [hF]; trivial
  have h54 : F.fn 54 := by rw [hF]; trivial
  have h55 : F.fn 55 := by rw [hF]; trivial
  have h59 : F.fn 59 := by rw [hF]; trivial
  have hro : F.round = none := by rw [hF]; rfl
  have h1 : 1 ≤ n := by omega
  have hseq : SeqGives F (n - 1 - 1 - 1) Try.prog 55 #[.pointer (some ⟨L.c, L.d, none⟩)] encU (fun ss : List Int => ss = []) 0 w :=
    keys_gives_nil F _ h55 hro L.c L.d w (R.lt bx L hL) hcell
  refine (callsIn_wide (n := n)).1 ?_
  rw [← hF]
  have HF : Hid (F = Fence.wide) := hF
  clear hF
  refine callsIn_of_wp Try.func28 rfl h28 ?_ hro
  simp only [Try.ntmps28, List.size_toArray, List.length_cons, List.length_nil, Nat.reduceAdd, Nat.reduceSub, Array.replicate_succ, Array.replicate_zero, List.push_toArray, List.append_toArray, List.nil_append, List.cons_append]
  gi_wp2_with (gi_at_call 53; refine (collect_in F (n - 1) h53 h59 hro (by omega) 55 _ h55 (enters_of Try.func55 (by kernel_rfl) rfl) _ 0 (Nat.zero_le _) (by decide) _ hseq).mono ?_; rintro e W ⟨v, ss, rfl, hS', hrow, hnil, hb⟩)
  have hv : v = .slice none 0 0 := hnil.2 hS'
  subst hv
  have R2 := R.grown (w' := W) ⟨hb.os, hb.tape, hb.output, hb.size, fun k hk => hb.block k hk⟩
  have cS := sortsN s B ρ [.slice none 0 0] W R2 (vrels_cons.2 ⟨_, _, rfl, vrel_nilSlice.2 rfl, vrels_nil.2 rfl⟩)
  have cS := (callsIn_wide (n := n - 1)).2 cS
  have hF : F = Fence.wide := HF
  rw [← hF] at cS
  clear hF
  gi_wp2_with (gi_at_call 54; refine cS.mono ?_; rintro e w' ⟨v', u, ρ2, h1', rfl, h3', hp2⟩)
  go_ret
  exact ⟨_, _, ρ2, rfl, rfl, vrel_nilSlice.2 rfl, (Post.grown R ⟨hb.os, hb.tape, hb.output, hb.size, fun k hk => hb.block k hk⟩).trans hp2⟩
end Go.Proofs.Ythooafgfpnedhaa.specsVoid
