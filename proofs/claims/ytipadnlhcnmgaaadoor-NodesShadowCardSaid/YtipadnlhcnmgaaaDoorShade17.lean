/- The law NodesShadow answers true, whatever rows. Conditions: those that each theorem names, and no others. -/
import Derived.Test.YtipadnlhcnmgaaaDoorShade16
namespace Go.Proofs.YtipadnlhcnmgaaaDoor.nodesShadow
open Go Go.Mini
theorem Sound.relen {P : Program} {f : FuncId} {args : List AV} {e : AExit} {v : AV} {bs : List (Nat × AObj)} {len nx : Nat} {s1 : AS} (h : Sound P (.call f args ⟨⟨bs, len, none, []⟩, nx⟩) ⟨e, [v], s1⟩) (len' nx' : Nat) (hn : nx' ≤ nx) :
    ∃ s2, Sound P (.call f args ⟨⟨bs, len', none, []⟩, nx'⟩) ⟨e, [v], s2⟩ := by
  refine ⟨⟨⟨s1.h.bs, len' + (s1.h.len - len), s1.h.esc, s1.h.wr⟩, s1.nx⟩, Sound.skip (n := nx) ?_ hn⟩
  intro B ρ cargs w R hc
  have R' : Rel P B ρ ⟨⟨bs, len, none, []⟩, nx⟩ w := R.congr (fun _ => rfl) rfl rfl
  refine Calls.mono (h B ρ cargs w R' hc) fun en w1 hr => ?_
  obtain ⟨v', u, ρ1, e1, e2, e3, hp⟩ := hr
  refine ⟨v', u, ρ1, e1, e2, e3, ⟨hp.rel.congr (fun _ => rfl) rfl rfl, hp.ext, hp.unt, ⟨hp.shape.nx, ?_, hp.shape.log⟩, hp.size⟩⟩
  obtain ⟨ks, h1, h2, h3⟩ := hp.shape.keys
  refine ⟨ks, h1, ?_, h3⟩
  have h2' : s1.h.len = len + ks.length := h2
  show len' + (s1.h.len - len) = len' + ks.length
  omega
section
variable (La : List Ac) (hLa : ∀ k, (eA La k).wa < 18446744073709551616 ∧ (eA La k).nw < 18446744073709551616) (n c : Nat) (hn : n ≤ La.length) (hn' : n < 1000) (rest : List (Nat × AObj)) (hE : Env rest) (r2 : Bool) (h2 : getB rest 2 = some (.cells r2 (rowsOf acC La)))
    (xr : AV) (nr : Nat) (e : Nat → Rf) (hx : RefArg xr nr rest e) (m : Nat) (hm : m < 4294967296) (q : AV) (hq : q.names (fun _ => false) = true)
include hLa hn hn' hE h2 hx hm hq
set_option maxRecDepth 4000 in
theorem gd_loop : ∀ (d k : Nat) (es : List (Int × Nat)) (bn : List Nat) (ck : Nat) (W : List Nat) (j : Nat → AV), n - k = d → k ≤ n → Ag es W → (∀ i, (j i).names (fun _ => false) = true) →
    ∃ es' bn' ck' W' j', SoundL Tryd.prog [6, 4] (.loop (loopAt Tryd.prog 8 0)) (Td (.slice 2 0 n c) xr m k q j) (Fs m es bn ck W rest) 7 7 (.exit 0) (Td (.slice 2 0 n c) xr m n q j') (Fs m es' bn' ck' W' rest) := by
  intro d
  induction d with
  | zero =>
    intro k es bn ck W j hd hk hA hj
    have : k = n := by omega
    subst this
    refine ⟨es, bn, ck, W, j, SoundL.stop (SoundL.intro (runX_sound mixed none_sound (gd_end ac0 xr q 0 j m k c nr k 0 0 0 0 0 false false 0 0 (mE es) [] bn [] ck 0 (wC W) [] rest) ⟨by simp [Qst.ok], trivial⟩) ?_ (sameBut_any _ _) ⟨⟨wC_names _, rfl⟩, ⟨rfl, rfl⟩, ⟨mE_names _, rfl⟩, Olds.each hE.olds (by decide) fun b hb => ?_⟩) (by simp)⟩
    · unfold Td
      repeat (first | exact rfl | refine ⟨_, _, rfl, ?_, ?_⟩ | exact .inl ⟨rfl, rfl⟩ | exact .inr (see7 rfl) | exact .inr (see7 (nn7 hq)) | exact .inr (see7 hx.nm) | exact .inr (see7 (nn7 (hj _))))
    · show getB ((6, _) :: (5, _) :: (4, _) :: rest) b = _
      rw [getB_cons, if_neg (by omega), getB_cons, if_neg (by omega), getB_cons, if_neg (by omega)]
  | succ d ih =>
    intro k es bn ck W j hd hk hA hj
    obtain ⟨j1, hj1, h1⟩ := gd_step La hLa n c hn hn' rest hE r2 h2 xr nr e hx m hm q hq k (by omega) es bn ck W hA j
    obtain ⟨es', bn', ck', W', j', h3⟩ := ih (k + 1) _ (bnA (eA La k) es bn ck) (ckA (eA La k) es ck) _ j1 (by omega) (by omega) (hA.next (eA La k) (hLa k).2) hj1
    exact ⟨es', bn', ck', W', j', h1.next h3⟩
end
theorem RefArg.jk {xr : AV} {nr : Nat} {rest : List (Nat × AObj)} {e : Nat → Rf} (h : RefArg xr nr rest e) : junkOf xr = junkA ∧ junkable xr = true := by
  rcases h with ⟨cr, rfl, hr⟩ | ⟨rfl, rfl⟩ <;> exact ⟨rfl, rfl⟩
def W0 : List Nat := List.replicate 256 0
theorem rep_len (n : Nat) : (List.replicate n 0).length = n := List.length_replicate
theorem rep_get (n k : Nat) : (List.replicate n 0).getD k 0 = 0 := by
  simp only [List.getD, List.getElem?_replicate]
  split <;> rfl
theorem ag0 : Ag [] W0 := ⟨rep_len 256, fun n => by
  show 0 = _
  split
  · exact (rep_get 256 _).symm
  · rfl, fun x hx => by cases hx⟩
theorem env_G {rest : List (Nat × AObj)} (hE : Env rest) (s : AS) (hs : ∀ b, b < 4 → s.get b = getB rest b) : hasG s G2 = true := by
  obtain ⟨r0, h0⟩ := hE.g0
  obtain ⟨r1, h1⟩ := hE.g1
  exact (hasG_of ((hs 0 (by decide)).trans h0) ((hs 1 (by decide)).trans h1)).1
set_option maxRecDepth 4000 in
theorem gk_law (La : List Ac) (hLa : ∀ k, (eA La k).wa < 18446744073709551616 ∧ (eA La k).nw < 18446744073709551616) (n c : Nat) (hn : n ≤ La.length) (rest : List (Nat × AObj)) (hE : Env rest) (r2 : Bool) (h2 : getB rest 2 = some (.cells r2 (rowsOf acC La)))
    (xr : AV) (nr : Nat) (e : Nat → Rf) (hx : RefArg xr nr rest e) (m : Nat) (hm : m < 4294967296) :
    ∃ e1 s1, Sound Tryd.prog (.call 8 [.slice 2 0 n c, xr, .int .u32 (Int.ofNat m)] ⟨⟨rest, 4, none, []⟩, 4⟩) ⟨e1, [.bool true], s1⟩ := by
  have lv : ∀ s : AS, (∀ b, b < 4 → s.get b = getB rest b) → Sound Tryd.prog (.call 25 [] s) ⟨.ret, [.bool true], s⟩ := fun s hs => lives25_call s (env_G hE s hs)
  by_cases b1 : 300 < n
  · exact ⟨_, _, runX_sound mixed none_sound (gk_big1 ac0 xr undefA 0 (fun _ => undefA) m n c nr 0 0 0 0 0 0 false false 0 0 [] [] [] [] 0 0 [] [] rest) ⟨by simp [Qst.ok]; omega, lv _ (fun _ _ => rfl), trivial⟩⟩
  have q1 : (Qst.val (some (AV.bool (decide (((n : Nat) : Int) > 300)))) (AV.bool false)).ok Tryd.prog := by simp [Qst.ok]; omega
  by_cases b2 : 300 < nr
  · exact ⟨_, _, runX_sound mixed none_sound (gk_big2 ac0 xr undefA 0 (fun _ => undefA) m n c nr 0 0 0 0 0 0 false false 0 0 [] [] [] [] 0 0 [] [] rest) ⟨q1, hx.len _, by simp [Qst.ok]; omega, lv _ (fun _ _ => rfl), trivial⟩⟩
  have q2 : (Qst.val (some (AV.bool (decide (Int.ofNat nr > 300)))) (AV.bool false)).ok Tryd.prog := by simp [Qst.ok]; omega
  obtain ⟨es', bn', ck', W', j', hl⟩ := gd_loop La hLa n c hn (by omega) rest hE r2 h2 xr nr e hx m hm (.agg (.int .u32 (Int.ofNat m) :: wC W0)) (wC_names (p := fun _ => false) W0) n 0 [] [] 0 W0 (fun _ => undefA) (by omega) (by omega) ag0 (fun _ => rfl)
  refine ⟨_, _, runX_sound mixed none_sound (gk_main ac0 xr (.agg (.int .u32 (Int.ofNat m) :: wC W0)) 0 j' m n c nr 0 0 0 0 0 0 false false 0 0 [] (mE es') [] bn' 0 ck' [] (wC W') rest) ⟨q1, hx.len _, q2, Sound.enter (hl none none [6]) ?_, lv _ (fun b hb => ?_), trivial⟩⟩
  · unfold Td
    repeat (first | exact rfl | refine ⟨_, _, rfl, ?_, ?_⟩ | exact .inr ⟨rfl, rfl⟩ | exact .inl ⟨rfl, rfl⟩ | exact .inl ⟨hx.jk.1.symm, hx.jk.2⟩ | exact see_same _)
  · show getB ((6, _) :: (5, _) :: (4, _) :: rest) b = _
    rw [getB_cons, if_neg (by omega), getB_cons, if_neg (by omega), getB_cons, if_neg (by omega)]
theorem gk_lnil (rest : List (Nat × AObj)) (hE : Env rest) (xr : AV) (nr : Nat) (hx : ∀ s, lenA Tryd.prog s 87 xr = some (.int .i64 (Int.ofNat nr))) (m : Nat) :
    ∃ e1 s1, Sound Tryd.prog (.call 8 [.nilSlice, xr, .int .u32 (Int.ofNat m)] ⟨⟨rest, 4, none, []⟩, 4⟩) ⟨e1, [.bool true], s1⟩ := by
  have lv : ∀ s : AS, (∀ b, b < 4 → s.get b = getB rest b) → Sound Tryd.prog (.call 25 [] s) ⟨.ret, [.bool true], s⟩ := fun s hs => lives25_call s (env_G hE s hs)
  by_cases b2 : 300 < nr
  · exact ⟨_, _, runX_sound mixed none_sound (gk_nbig ac0 xr undefA 0 (fun _ => undefA) m 0 0 nr 0 0 0 0 0 0 false false 0 0 [] [] [] [] 0 0 [] [] rest) ⟨hx _, by simp [Qst.ok]; omega, lv _ (fun _ _ => rfl), trivial⟩⟩
  · refine ⟨_, _, runX_sound mixed none_sound (gk_nil ac0 xr undefA 0 (fun _ => undefA) m 0 0 nr 0 0 0 0 0 0 false false 0 0 [] [] [] [] 0 0 [] [] rest) ⟨hx _, by simp [Qst.ok]; omega, lv _ (fun b hb => ?_), trivial⟩⟩
    show getB ((6, _) :: (5, _) :: (4, _) :: rest) b = _
    rw [getB_cons, if_neg (by omega), getB_cons, if_neg (by omega), getB_cons, if_neg (by omega)]
end Go.Proofs.YtipadnlhcnmgaaaDoor.nodesShadow
