/- A step keeps what holds; the shadow, plainly. Conditions: those that each theorem names, and no others. -/
import Derived.Test.YtofbdgmknfbkfaaGreatDoorLife4
namespace Go.Proofs.YtofbdgmknfbkfaaGreatDoor.nodesLife
open Go Go.Mini
/-! ### a step of a Free -/
theorem Chg.mono {M M' : PM} {Z Z' : Nat → Prop} (c : Chg M M' Z) (h : ∀ z, Z z → Z' z) : Chg M M' Z' := ⟨fun z hz => c.hdr z fun x => hz (h z x), fun z hz => c.lnk z fun x => hz (h z x), c.dead, c.head, c.con, c.lt⟩
structure FOk (most : Nat) (M : PM) (FL : List Nat) (x : Fr) (s0 : Nat) (r : PM × Option Fr) (FL' : List Nat) : Prop where
  c : Chg M r.1 (fun y => y = x.z)
  hd : slI (hdW r.1) = hdI FL'
  ch : chain r.1 FL'
  fl : ∀ z ∈ FL', hasF r.1 most z
  nF : FL'.Nodup
  so : ∀ x', r.2 = some x' → x'.z = x.z ∧ FL' = FL ∧ frOk most r.1 s0 x'
  no : r.2 = none → FL' = FL ∨ FL' = x.z :: FL
  cur : ∀ c : RefP, s0 = 2 → c.1 = x.z → curOk M c x → (∀ x', r.2 = some x' → curOk r.1 c x') ∧ (r.2 = none → dead r.1 c)
theorem hg_of {M : PM} {z s g : Nat} (hs4 : s ≤ 4) (hg' : g < 4294967296) (h : hdr M z = mkw s g) : hg (hdr M z) = g ∧ hs (hdr M z) = s := by
  rw [h]
  exact ⟨hg_mkw hs4 hg', hs_mkw hs4⟩
theorem mkw_inj2 {s g g' : Nat} (h : mkw s g = mkw s g') : g = g' := by unfold mkw at h; omega
section
variable {most K : Nat} {M : PM} {FL : List Nat} {th : Nat → Th} {G : List RefP} {k : Nat}
theorem fgo_ok (I : Inv most K M FL th G) (hk : k < 3) (hK : K < 281474976710655) (hm : most < 4294967296) {x : Fr} {s0 : Nat} (h12 : s0 = 1 ∨ s0 = 2) (hx : frOk most M s0 x) (hz : x.z ∈ own (th k)) : ∃ FL', FOk most M FL x s0 (fgo most M x) FL' := by
  have z16 : x.z < 16 := I.rO k hk _ hz
  have zF : x.z ∉ FL := I.dF k hk _ hz
  have htg : tgN (hdW M) < 281474976710655 := by have := I.tg; omega
  have nz : ∀ z ∈ FL, ¬ z = x.z := fun z hz' e => zF (e ▸ hz')
  -- what turns no list
  have q : ∀ {M' : PM} {o : Option Fr} (c : Chg M M' (fun y => y = x.z)) (_ : hdW M' = hdW M) (_ : ∀ x', o = some x' → x'.z = x.z ∧ frOk most M' s0 x') (_ : ∀ c : RefP, s0 = 2 → c.1 = x.z → curOk M c x → (∀ x', o = some x' → curOk M' c x') ∧ (o = none → dead M' c)), FOk most M FL x s0 (M', o) FL := fun c hh hs hc =>
    ⟨c, by rw [hh]; exact I.hd, I.ch.chg c nz, fun z hz' => (I.fl z hz').chg c (nz z hz'), I.nF, fun x' e => ⟨(hs x' e).1, rfl, (hs x' e).2⟩, fun _ => .inl rfl, hc⟩
  have ld : ∀ a, Chg M (M.load a) (fun y => y = x.z) := fun a => (chg_load M a).mono fun _ h => h.elim
  cases x with
  | f1 z =>
    obtain ⟨g, h1, h2⟩ := hx
    have e := (hg_of (by rcases h12 with rfl | rfl <;> decide) (by omega) h2).1
    refine ⟨FL, q (ld _) rfl (fun x' e' => ?_) fun c hs hc hcur => ⟨fun x' e' => ?_, fun e' => by cases e'⟩⟩
    · cases e'
      refine ⟨rfl, ?_⟩
      show hg (hdr M z) ≤ most ∧ hdr M z = mkw s0 (hg (hdr M z))
      rw [e]
      exact ⟨h1, h2⟩
    · cases e'
      exact hcur
  | f2 z g =>
    obtain ⟨h1, h2⟩ := hx
    have hh := hg_of (by rcases h12 with rfl | rfl <;> decide) (by omega) h2
    have nd : ∀ n, dead M (z, n) → n < g := fun n hn => by
      rcases hn with hn | hn
      · have hn : n < hg (hdr M z) := hn
        rw [hh.1] at hn
        exact hn
      · have hn : hs (hdr M z) = 4 := hn
        rw [hh.2] at hn
        rcases h12 with rfl | rfl <;> cases hn
    by_cases hg' : most ≤ g
    · have eg : g = most := Nat.le_antisymm h1 hg'
      subst eg
      obtain ⟨c, c1, c2, _⟩ := chg_hdr (M := M) (z := z) (u := mkw 4 g) z16 (mkw_lt (by decide) hm) (fun n _ => .inr (hs_mkw (by decide)))
      have e : fgo g M (.f2 z g) = (M.store (aZ z 0) (mkw 4 g), some (.c1 z 0)) := by simp only [fgo, if_pos hg']
      rw [e]
      refine ⟨FL, q c c1 (fun x' e' => ?_) fun cc hs' hc hcur => ⟨fun x' e' => ?_, fun e' => by cases e'⟩⟩
      · cases e'
        exact ⟨rfl, c2⟩
      · cases e'
        refine .inr ?_
        rw [hc]
        show hs (hdr _ z) = 4
        rw [c2]
        exact hs_mkw (by decide)
    · obtain ⟨c, c1, c2, _⟩ := chg_hdr (M := M) (z := z) (u := mkw 0 (g + 1)) z16 (mkw_lt (by decide) (by omega)) (fun n hn => .inl (by rw [hg_mkw (by decide) (by omega)]; have := nd n hn; omega))
      have e : fgo most M (.f2 z g) = (M.store (aZ z 0) (mkw 0 (g + 1)), some (.f3 z)) := by simp only [fgo, if_neg hg']
      rw [e]
      refine ⟨FL, q c c1 (fun x' e' => ?_) fun cc hs' hc hcur => ⟨fun x' e' => ?_, fun e' => by cases e'⟩⟩
      · cases e'
        exact ⟨rfl, g + 1, by omega, c2⟩
      · cases e'
        have hcur : hdr M z = mkw 2 cc.2 := hcur
        subst hs'
        rw [h2] at hcur
        have := mkw_inj2 hcur
        refine .inl ?_
        rw [hc]
        show cc.2 < hg (hdr _ z)
        rw [c2, hg_mkw (by decide) (by omega)]
        omega
  | f3 z =>
    refine ⟨FL, q (ld _) rfl (fun x' e' => ?_) fun c hs hc hcur => ⟨fun x' e' => ?_, fun e' => by cases e'⟩⟩
    · cases e'; exact ⟨rfl, hx⟩
    · cases e'; exact hcur
  | p1 z h =>
    refine ⟨FL, q (ld _) rfl (fun x' e' => ?_) fun c hs hc hcur => ⟨fun x' e' => ?_, fun e' => by cases e'⟩⟩
    · cases e'; exact ⟨rfl, hx, .inr rfl⟩
    · cases e'; exact hcur
  | p2 z h =>
    obtain ⟨c, c1, c2, c3⟩ := chg_lnk (M := M) (z := z) (u := hdN (slI h) 0) z16 (hdN_lt _ _)
    refine ⟨FL, q c c1 (fun x' e' => ?_) fun cc hs hc hcur => ⟨fun x' e' => ?_, fun e' => by cases e'⟩⟩
    · cases e'
      obtain ⟨⟨g, h1, h2⟩, h3⟩ := hx
      exact ⟨rfl, ⟨g, h1, (c2 z).trans h2⟩, h3.chg c, by rw [c3, slI_hdN _ _ (slI_R h)]⟩
    · cases e'
      have hcur : dead M cc := hcur
      exact c.dead cc hcur
  | p3 z h =>
    obtain ⟨⟨g, h1, h2⟩, h3, h4⟩ := hx
    have hzR : slR (Int.ofNat z) := .inr ⟨by simp only [Int.ofNat_eq_natCast]; omega, by simp only [Int.ofNat_eq_natCast]; have : z < 16 := z16; omega⟩
    obtain ⟨c0, e0, e2, ey, en⟩ := chg_casF (M := M) (h := h) hzR htg
    have c := c0.mono (Z' := fun y => y = z) fun _ hh => hh.elim
    cases hc : M.casd aF h with
    | false =>
      have e : fgo most M (.p3 z h) = (M.cas aF h (hdN (Int.ofNat z) (tgN h + 1)), some (.p1 z h)) := by simp [fgo, hc]
      rw [e]
      refine ⟨FL, q c (en hc) (fun x' e' => ?_) fun cc hs hcc hcur => ⟨fun x' e' => ?_, fun e' => by cases e'⟩⟩
      · cases e'
        exact ⟨rfl, g, h1, (e0 z).trans h2⟩
      · cases e'
        have hcur : dead M cc := hcur
        exact c.dead cc hcur
    | true =>
      have e : fgo most M (.p3 z h) = (M.cas aF h (hdN (Int.ofNat z) (tgN h + 1)), none) := by simp [fgo, hc]
      rw [e]
      obtain ⟨eh, ew⟩ := ey hc
      refine ⟨z :: FL, ⟨c, ?_, ⟨?_, I.ch.chg c0 fun _ _ hh => hh⟩, fun y hy => ?_, List.nodup_cons.2 ⟨zF, I.nF⟩, fun x' e' => (by cases e'), fun _ => .inr rfl, fun cc hs hcc hcur => ⟨fun x' e' => (by cases e'), fun _ => ?_⟩⟩⟩
      · show slI (hdW (M.cas aF h (hdN (Int.ofNat z) (tgN h + 1)))) = Int.ofNat z
        rw [ew, slI_hdN _ _ hzR]
      · show lnk (M.cas aF h (hdN (Int.ofNat z) (tgN h + 1))) z = hdI FL
        rw [e2, h4, eh]
        exact I.hd
      · rcases List.mem_cons.1 hy with rfl | hy
        · exact ⟨g, h1, (e0 y).trans h2⟩
        · exact (I.fl y hy).chg c0 fun hh => hh
      · have hcur : dead M cc := hcur
        exact c.dead cc hcur
  | c1 z n =>
    refine ⟨FL, q (ld _) rfl (fun x' e' => ?_) fun c hs hc hcur => ⟨fun x' e' => ?_, fun e' => by cases e'⟩⟩
    · cases e'; exact ⟨rfl, hx⟩
    · cases e'; exact hcur
  | c2 z n =>
    obtain ⟨c0, c1⟩ := chg_casQ (M := M) (a := aSg (z / 8) 1) (w := n) (u := (n + 1) % 18446744073709551616) (.inr (.inr ⟨z / 8, rfl⟩)) (Nat.mod_lt _ (by decide))
    have c := c0.mono (Z' := fun y => y = z) fun _ hh => hh.elim
    cases hc : M.casd (aSg (z / 8) 1) n with
    | false =>
      have e : fgo most M (.c2 z n) = (M.cas (aSg (z / 8) 1) n ((n + 1) % 18446744073709551616), some (.c1 z n)) := by simp [fgo, hc]
      rw [e]
      refine ⟨FL, q c c1 (fun x' e' => ?_) fun cc hs hcc hcur => ⟨fun x' e' => ?_, fun e' => by cases e'⟩⟩
      · cases e'
        exact ⟨rfl, (c0.hdr z fun hh => hh).trans hx⟩
      · cases e'
        have hcur : dead M cc := hcur
        exact c.dead cc hcur
    | true =>
      have e : fgo most M (.c2 z n) = (M.cas (aSg (z / 8) 1) n ((n + 1) % 18446744073709551616), none) := by simp [fgo, hc]
      rw [e]
      refine ⟨FL, q c c1 (fun x' e' => by cases e') fun cc hs hcc hcur => ⟨fun x' e' => (by cases e'), fun _ => ?_⟩⟩
      have hcur : dead M cc := hcur
      exact c.dead cc hcur
end
end Go.Proofs.YtofbdgmknfbkfaaGreatDoor.nodesLife
namespace Go.Proofs.YtofbdgmknfbkfaaGreatDoor.nodesLife
open Go Go.Mini
/-! ### a thread's step keeps it -/
theorem chg_refl (M : PM) : Chg M M (fun _ => False) := ⟨fun _ _ => rfl, fun _ _ => rfl, fun _ h => h, .inl rfl, fun h => h, fun h => h⟩
theorem pick_sub {sel : Nat → Bool} : ∀ {i : Nat} {l : List Ent}, ∀ e ∈ pick sel i l, e ∈ l
  | _, [], _, h => h
  | i, x :: l, e, h => by
    simp only [pick] at h
    split at h
    · rcases List.mem_cons.1 h with rfl | h
      · exact List.mem_cons_self
      · exact List.mem_cons_of_mem _ (pick_sub e h)
    · exact List.mem_cons_of_mem _ (pick_sub e h)
theorem pick_perm {sel : Nat → Bool} : ∀ {i : Nat} {l : List Ent}, (pick (fun i => !sel i) i l ++ pick sel i l).Perm l
  | _, [] => .refl _
  | i, x :: l => by
    simp only [pick]
    by_cases h : sel i = true
    rotate_left
    · rw [Bool.not_eq_true] at h
      simp only [h, Bool.not_false, ↓reduceIte, Bool.false_eq_true]
      exact (pick_perm).cons x
    · simp only [h, Bool.not_true, ↓reduceIte, Bool.false_eq_true]
      exact List.perm_middle.trans ((pick_perm).cons x)
theorem ownO_next {y : Nat} {goes : List Ent} {freed : List RefP} : ownO (nextF y goes freed) = goes.map Ent.z := by
  cases goes <;> rfl
section
variable {most K : Nat} {M : PM} {FL : List Nat} {th : Nat → Th} {G : List RefP} {k : Nat} {M' : PM} {t : Th}
theorem Inv.line' (I : Inv most K M FL th G) (hk : k < 3) (ht : th k = t) (c : Chg M M' (fun _ => False)) (hh : hdW M' = hdW M) (o' : Op) (hn : ownO o' = ownO t.op ∨ ownO o' = []) (ok' : opOk most M' ⟨t.held, t.L, o'⟩) : ∃ FL', Inv most (K + 1) M' FL' (tunT th k ⟨t.held, t.L, o'⟩) (G ++ []) := by
  subst ht
  exact ⟨FL, I.line hk c hh o' hn ok'⟩
/-- A step of a Free, in a thread. -/
theorem Inv.free (I : Inv most K M FL th G) (hk : k < 3) (ht : th k = t) {x : Fr} {R : List Nat} (hO : ownO t.op = x.z :: R) {s0 : Nat} {r : PM × Option Fr} {FL' : List Nat} (F : FOk most M FL x s0 r FL') (o' : Op)
    (ho : (r.2 = none ∧ ownO o' = R) ∨ (∃ x', r.2 = some x' ∧ ownO o' = x.z :: R)) (ok' : opOk most r.1 ⟨t.held, t.L, o'⟩) {out : List RefP} (G' : ∀ y ∈ out, dead r.1 y) : ∃ FL', Inv most (K + 1) r.1 FL' (tunT th k ⟨t.held, t.L, o'⟩) (G ++ out) := by
  have O := I.ok k hk
  have no := I.nO k hk
  have dF := I.dF k hk
  have e0 : own (th k) = t.held.map (·.1) ++ (t.L.map Ent.z ++ (x.z :: R)) := by rw [ht]; unfold own; rw [hO]
  rw [ht] at O
  have mx : x.z ∈ own (th k) := by rw [e0]; simp
  have no2 := no
  rw [e0, ← List.append_assoc] at no2
  have nx : x.z ∉ t.held.map (·.1) ++ t.L.map Ent.z := fun h => (List.nodup_append.1 no2).2.2 _ h _ List.mem_cons_self rfl
  have nR := (List.nodup_append.1 no2).2.1
  have okh : ∀ y ∈ t.held, y.2 ≤ most ∧ hdr r.1 y.1 = mkw 1 y.2 := fun y hy => by
    obtain ⟨h1, h2⟩ := O.held y hy
    exact ⟨h1, (F.c.hdr _ (fun e => nx (List.mem_append.2 (.inl (by rw [← e]; exact List.mem_map_of_mem hy))))).trans h2⟩
  have okL : ∀ y ∈ t.L, y.g ≤ most ∧ hdr r.1 y.z = mkw 2 y.g := fun y hy => by
    obtain ⟨h1, h2⟩ := O.L y hy
    exact ⟨h1, (F.c.hdr _ (fun e => nx (List.mem_append.2 (.inr (by rw [← e]; exact List.mem_map_of_mem hy))))).trans h2⟩
  refine ⟨FL', I.step hk F.c (fun z hz => by rw [show z = x.z from hz]; exact mx) F.hd F.ch F.fl F.nF ?_ ?_ ?_ ⟨okh, okL, ok'⟩ G'⟩
  · rcases ho with ⟨_, h⟩ | ⟨x', _, h⟩
    · unfold own
      rw [h]
      refine no.sublist ?_
      rw [e0]
      exact (List.Sublist.refl _).append ((List.Sublist.refl _).append (List.sublist_cons_self _ _))
    · unfold own
      rw [h, ← e0]
      exact no
  · rcases ho with ⟨h0, h⟩ | ⟨x', h0, h⟩
    · intro z hz hm
      have hz2 : z ∈ own (th k) ∧ z ≠ x.z := by
        unfold own at hz
        rw [h] at hz
        rw [e0]
        refine ⟨?_, ?_⟩
        · simp only [List.mem_append, List.mem_cons] at hz ⊢
          rcases hz with hz | hz | hz
          · exact .inl hz
          · exact .inr (.inl hz)
          · exact .inr (.inr (.inr hz))
        · intro e
          subst e
          rw [← List.append_assoc] at hz
          rcases List.mem_append.1 hz with hz | hz
          · exact nx hz
          · exact (List.nodup_cons.1 nR).1 hz
      rcases F.no h0 with e | e
      · rw [e] at hm
        exact dF z hz2.1 hm
      · rw [e] at hm
        rcases List.mem_cons.1 hm with hm | hm
        · exact hz2.2 hm
        · exact dF z hz2.1 hm
    · intro z hz
      rw [(F.so x' h0).2.1]
      refine dF z ?_
      unfold own at hz
      rw [h] at hz
      rw [e0]
      exact hz
  · intro z hz
    rcases ho with ⟨h0, h⟩ | ⟨x', h0, h⟩
    · rcases hz with hz | hz
      · rcases F.no h0 with e | e
        · rw [e] at hz
          exact .inl hz
        · rw [e] at hz
          rcases List.mem_cons.1 hz with hz | hz
          · rw [hz]
            exact .inr mx
          · exact .inl hz
      · right
        rw [e0]
        unfold own at hz
        rw [h] at hz
        simp only [List.mem_append, List.mem_cons] at hz ⊢
        rcases hz with hz | hz | hz
        · exact .inl hz
        · exact .inr (.inl hz)
        · exact .inr (.inr (.inr hz))
    · rcases hz with hz | hz
      · rw [(F.so x' h0).2.1] at hz
        exact .inl hz
      · right
        rw [e0]
        unfold own at hz
        rw [h] at hz
        exact hz
/-- A store of a header of one's own. -/
theorem Inv.hdrS (I : Inv most K M FL th G) (hk : k < 3) (ht : th k = t) {z s g s' : Nat} (hm : most < 4294967296) (hO : ownO t.op = [z]) (hg' : g ≤ most) (hz : hdr M z = mkw s g) (hs4 : s < 4) (hs' : s' < 4) {h' : List RefP} {L' : List Ent} (o' : Op)
    (pm : (h'.map (·.1) ++ (L'.map Ent.z ++ ownO o')).Perm (t.held.map (·.1) ++ (t.L.map Ent.z ++ [z])))
    (hh : ∀ r ∈ h', r ∈ t.held ∨ r = (z, g) ∧ s' = 1) (hL : ∀ e ∈ L', e ∈ t.L ∨ e.z = z ∧ e.g = g ∧ s' = 2) (ok' : opOk most (M.store (aZ z 0) (mkw s' g)) ⟨h', L', o'⟩) : ∃ FL', Inv most (K + 1) (M.store (aZ z 0) (mkw s' g)) FL' (tunT th k ⟨h', L', o'⟩) (G ++ []) := by
  have O := I.ok k hk
  have no := I.nO k hk
  have e0 : own (th k) = t.held.map (·.1) ++ (t.L.map Ent.z ++ [z]) := by rw [ht]; unfold own; rw [hO]
  rw [ht] at O
  have mx : z ∈ own (th k) := by rw [e0]; simp
  have no2 := no
  rw [e0, ← List.append_assoc] at no2
  have nx : z ∉ t.held.map (·.1) ++ t.L.map Ent.z := fun h => (List.nodup_append.1 no2).2.2 _ h _ List.mem_cons_self rfl
  have hgs := hg_of (by omega) (by omega) hz
  obtain ⟨c, c1, c2, _⟩ := chg_hdr (M := M) (z := z) (u := mkw s' g) (I.rO k hk z mx) (mkw_lt (by omega) (by omega)) (fun n hn => by
    rcases hn with hn | hn
    · left
      rw [hg_mkw (by omega) (by omega)]
      have hn : n < hg (hdr M z) := hn
      rwa [hgs.1] at hn
    · have hn : hs (hdr M z) = 4 := hn
      exact absurd (hgs.2.symm.trans hn) (by omega))
  refine ⟨FL, I.quiet (t' := ⟨h', L', o'⟩) hk c (fun y hy => by rw [show y = z from hy]; exact mx) c1 (pm.nodup_iff.2 (by rw [← e0]; exact no)) (fun y hy => by rw [e0]; exact pm.mem_iff.1 hy) ⟨fun r hr => ?_, fun e he => ?_, ok'⟩ (fun r hr => by cases hr)⟩
  · rcases hh r hr with h | ⟨rfl, rfl⟩
    · obtain ⟨h1, h2⟩ := O.held r h
      exact ⟨h1, (c.hdr _ (fun e => nx (List.mem_append.2 (.inl (by rw [← e]; exact List.mem_map_of_mem h))))).trans h2⟩
    · exact ⟨hg', c2⟩
  · rcases hL e he with h | ⟨h1, h2, rfl⟩
    · obtain ⟨h1, h2⟩ := O.L e h
      exact ⟨h1, (c.hdr _ (fun e => nx (List.mem_append.2 (.inr (by rw [← e]; exact List.mem_map_of_mem h))))).trans h2⟩
    · rw [h1, h2]
      exact ⟨hg', c2⟩
end
end Go.Proofs.YtofbdgmknfbkfaaGreatDoor.nodesLife
namespace Go.Proofs.YtofbdgmknfbkfaaGreatDoor.nodesLife
open Go Go.Mini
section
variable {most K : Nat} {M : PM} {FL : List Nat} {th : Nat → Th} {G : List RefP} {k : Nat}
theorem go_a3 (I : Inv most K M FL th G) (hk : k < 3) (hK : K < 281474976710655) {held : List RefP} {L : List Ent} {h : Nat} {x : Int} (ht : th k = ⟨held, L, .a3 h x⟩) :
    ∃ FL', Inv most (K + 1) (M.cas aF h (hdN x (tgN h + 1))) FL' (tunT th k ⟨held, L, if M.casd aF h then .a4 (slI h).toNat h x else .a1 h x⟩) (G ++ []) := by
  have O := I.ok k hk
  have no := I.nO k hk
  have dF := I.dF k hk
  have e0 : own (th k) = held.map (·.1) ++ (L.map Ent.z ++ []) := by rw [ht]; rfl
  rw [ht] at O
  obtain ⟨o1, o2, o3, o4⟩ := O.op
  have htg : tgN (hdW M) < 281474976710655 := by have := I.tg; omega
  obtain ⟨c, c0, c2, cy, cn⟩ := chg_casF (M := M) (h := h) o3 htg
  cases hc : M.casd aF h with
  | false => exact I.line' hk ht c (cn hc) (.a1 h x) (.inl rfl) trivial
  | true =>
    obtain ⟨eh, ew⟩ := cy hc
    subst eh
    obtain ⟨z, l, e1, e2⟩ := I.hd_in o2
    subst e1
    have ez : (slI (hdW M)).toNat = z := by rw [e2]; rfl
    have ex : x = hdI l := by rw [o4 rfl, ez]; exact I.ch.1
    have zl := List.nodup_cons.1 I.nF
    have zo : z ∉ held.map (·.1) ++ L.map Ent.z := fun hm => dF z (by rw [e0, List.append_nil]; exact hm) List.mem_cons_self
    have zo2 : z ∉ own (th k) := by rw [e0, List.append_nil]; exact zo
    have e0' : own ⟨held, L, .a4 (slI (hdW M)).toNat (hdW M) x⟩ = (held.map (·.1) ++ L.map Ent.z) ++ [z] := by
      rw [ez, List.append_assoc]
      rfl
    have mem' : ∀ y, y ∈ own ⟨held, L, .a4 (slI (hdW M)).toNat (hdW M) x⟩ → y ∈ own (th k) ∨ y = z := fun y hy => by
      rw [e0'] at hy
      rw [e0, List.append_nil]
      rcases List.mem_append.1 hy with hy | hy
      · exact .inl hy
      · exact .inr (by simpa using hy)
    refine ⟨l, I.step hk c (fun _ h => h.elim) ?_ (I.ch.2.chg c fun _ _ h => h) (fun y hy => (I.fl y (List.mem_cons_of_mem _ hy)).chg c fun h => h) zl.2 ?_ ?_ ?_ ⟨fun r hr => ?_, fun e he => ?_, ?_⟩ (fun r hr => by cases hr)⟩
    · rw [ew, slI_hdN _ _ o3]
      exact ex
    · show (own ⟨held, L, .a4 (slI (hdW M)).toNat (hdW M) x⟩).Nodup
      rw [e0']
      rw [e0, List.append_nil] at no
      refine List.nodup_append.2 ⟨no, by simp, fun a ha b hb e => ?_⟩
      have hb : b = z := by simpa using hb
      subst hb
      subst e
      exact zo ha
    · intro y hy hm
      rcases mem' y hy with h | h
      · exact dF y h (List.mem_cons_of_mem _ hm)
      · exact zl.1 (h ▸ hm)
    · intro y hy
      rcases hy with hy | hy
      · exact .inl (List.mem_cons_of_mem _ hy)
      · rcases mem' y hy with h | h
        · exact .inr h
        · rw [h]
          exact .inl List.mem_cons_self
    · obtain ⟨h1, h2⟩ := O.held r hr
      exact ⟨h1, (c.hdr _ fun h => h).trans h2⟩
    · obtain ⟨h1, h2⟩ := O.L e he
      exact ⟨h1, (c.hdr _ fun h => h).trans h2⟩
    · show hasF _ most (slI (hdW M)).toNat
      rw [ez]
      exact (I.fl z List.mem_cons_self).chg c fun h => h
theorem go_s5 (I : Inv most K M FL th G) (hk : k < 3) {held : List RefP} {L : List Ent} {y : Nat} (sel : Nat → Bool) (ht : th k = ⟨held, L, .sc y .s5⟩) (a : A3) :
    ∃ FL', Inv most (K + 1) (M.load a) FL' (tunT th k ⟨held, pick (fun i => !sel i) 0 L, nextF y (pick sel 0 L) []⟩) (G ++ []) := by
  have O := I.ok k hk
  have no := I.nO k hk
  have e0 : own (th k) = held.map (·.1) ++ (L.map Ent.z ++ []) := by rw [ht]; rfl
  rw [ht] at O
  have pm : (held.map (·.1) ++ ((pick (fun i => !sel i) 0 L).map Ent.z ++ ownO (nextF y (pick sel 0 L) []))).Perm (held.map (·.1) ++ (L.map Ent.z ++ [])) := by
    rw [ownO_next, ← List.map_append, List.append_nil]
    exact (pick_perm.map _).append_left _
  refine ⟨FL, I.quiet (t' := ⟨held, pick (fun i => !sel i) 0 L, nextF y (pick sel 0 L) []⟩) hk (chg_load M a) (fun y hy => hy.elim) rfl (pm.nodup_iff.2 (by rw [← e0]; exact no)) (fun y hy => by rw [e0]; exact pm.mem_iff.1 hy) ⟨O.held, fun e he => O.L e (pick_sub e he), ?_⟩ (fun r hr => by cases hr)⟩
  have hs : ∀ e ∈ pick sel 0 L, e.g ≤ most ∧ hdr (M.load a) e.z = mkw 2 e.g := fun e he => O.L e (pick_sub e he)
  generalize pick sel 0 L = l at hs
  cases l with
  | nil => exact trivial
  | cons e l =>
    have he := hs e List.mem_cons_self
    exact ⟨⟨e.g, he.1, he.2⟩, fun e' he' => hs e' (List.mem_cons_of_mem _ he'), [], e.ref, rfl, rfl, (fun r hr => by cases hr), he.2⟩
theorem mkV_lt (i : Nat) : mkV i < 18446744073709551616 := by
  unfold mkV
  split
  · decide
  · split <;> decide
theorem go_fr (I : Inv most K M FL th G) (hk : k < 3) (hK : K < 281474976710655) (hm : most < 4294967296) {held : List RefP} {L : List Ent} {y : Nat} {x : Fr} {goes : List Ent} {freed : List RefP} (ht : th k = ⟨held, L, .fr y x goes freed⟩) (thr : Nat) (sel : Nat → Bool) :
    ∃ FL', Inv most (K + 1) (go most thr sel M ⟨held, L, .fr y x goes freed⟩).1 FL' (tunT th k (go most thr sel M ⟨held, L, .fr y x goes freed⟩).2.1) (G ++ (go most thr sel M ⟨held, L, .fr y x goes freed⟩).2.2) := by
  have O := I.ok k hk
  have no := I.nO k hk
  have e0 : own (th k) = held.map (·.1) ++ (L.map Ent.z ++ (x.z :: goes.map Ent.z)) := by rw [ht]; rfl
  rw [ht] at O
  obtain ⟨o1, o2, done, cu, o3, o4, o5, o6⟩ := O.op
  have mx : x.z ∈ own (th k) := by rw [e0]; simp
  obtain ⟨FL', F⟩ := fgo_ok I hk (by omega) hm (.inr rfl) o1 mx
  rw [e0, ← List.append_assoc] at no
  have nR := List.nodup_cons.1 (List.nodup_append.1 no).2.1
  have hg' : ∀ e ∈ goes, e.g ≤ most ∧ hdr (fgo most M x).1 e.z = mkw 2 e.g := fun e he => ⟨(o2 e he).1, (F.c.hdr _ (fun h => nR.1 (by rw [← h]; exact List.mem_map_of_mem he))).trans (o2 e he).2⟩
  have hd' : ∀ r ∈ done, dead (fgo most M x).1 r := fun r hr => F.c.dead r (o5 r hr)
  have hcu := F.cur cu rfl o4 o6
  have hout : (fgo most M x).2 = none → ∀ r ∈ freed, dead (fgo most M x).1 r := fun h r hr => by
    rw [o3] at hr
    rcases List.mem_append.1 hr with h2 | h2
    · exact hd' r h2
    · have : r = cu := by simpa using h2
      rw [this]
      exact hcu.2 h
  have eg : go most thr sel M ⟨held, L, .fr y x goes freed⟩ = match fgo most M x with
    | (M', some x') => (M', ⟨held, L, .fr y x' goes freed⟩, [])
    | (M', none) => (M', ⟨held, L, nextF y goes freed⟩, if goes = [] then freed else []) := rfl
  rw [eg]
  generalize fgo most M x = r at F hg' hd' hcu hout ⊢
  obtain ⟨M', o⟩ := r
  cases o with
  | some x' =>
    obtain ⟨s1, s2, s3⟩ := F.so x' rfl
    refine I.free hk ht (x := x) (R := goes.map Ent.z) rfl F (.fr y x' goes freed) (.inr ⟨x', rfl, by show x'.z :: _ = _; rw [s1]⟩) ⟨s3, hg', done, cu, o3, o4.trans s1.symm, hd', hcu.1 x' rfl⟩ (out := []) (fun r hr => by cases hr)
  | none =>
    refine I.free hk ht (x := x) (R := goes.map Ent.z) rfl F (nextF y goes freed) (.inl ⟨rfl, ownO_next⟩) (out := if goes = [] then freed else []) ?_ (fun r hr => ?_)
    · cases goes with
      | nil => exact trivial
      | cons e l =>
        have he := hg' e List.mem_cons_self
        exact ⟨⟨e.g, he.1, he.2⟩, fun e' he' => hg' e' (List.mem_cons_of_mem _ he'), freed, e.ref, rfl, rfl, hout rfl, he.2⟩
    · split at hr
      · exact hout rfl r hr
      · cases hr
theorem go_dr (I : Inv most K M FL th G) (hk : k < 3) (hK : K < 281474976710655) (hm : most < 4294967296) {held : List RefP} {L : List Ent} {x : Fr} (ht : th k = ⟨held, L, .dr x⟩) (thr : Nat) (sel : Nat → Bool) :
    ∃ FL', Inv most (K + 1) (go most thr sel M ⟨held, L, .dr x⟩).1 FL' (tunT th k (go most thr sel M ⟨held, L, .dr x⟩).2.1) (G ++ (go most thr sel M ⟨held, L, .dr x⟩).2.2) := by
  have O := I.ok k hk
  rw [ht] at O
  have mx : x.z ∈ own (th k) := by rw [ht]; simp [own, ownO]
  obtain ⟨FL', F⟩ := fgo_ok I hk (by omega) hm (.inl rfl) O.op mx
  have eg : go most thr sel M ⟨held, L, .dr x⟩ = match fgo most M x with
    | (M', some x') => (M', ⟨held, L, .dr x'⟩, [])
    | (M', none) => (M', ⟨held, L, .no⟩, []) := rfl
  rw [eg]
  generalize fgo most M x = r at F ⊢
  obtain ⟨M', o⟩ := r
  cases o with
  | some x' =>
    obtain ⟨s1, s2, s3⟩ := F.so x' rfl
    exact I.free hk ht (x := x) (R := []) rfl F (.dr x') (.inr ⟨x', rfl, by show [x'.z] = _; rw [s1]⟩) s3 (fun r hr => by cases hr)
  | none => exact I.free hk ht (x := x) (R := []) rfl F .no (.inl ⟨rfl, rfl⟩) trivial (fun r hr => by cases hr)
theorem goes_to {thr : Nat} {sel : Nat → Bool} {t t' : Th} {M' : PM} {out : List RefP} (h : go most thr sel M t = (M', t', out)) (J : ∃ FL', Inv most (K + 1) M' FL' (tunT th k t') (G ++ out)) :
    ∃ FL', Inv most (K + 1) (go most thr sel M t).1 FL' (tunT th k (go most thr sel M t).2.1) (G ++ (go most thr sel M t).2.2) := by
  rw [h]
  exact J
theorem go_ok (I : Inv most K M FL th G) (hk : k < 3) (hK : K < 281474976710655) (hm : most < 4294967296) (thr : Nat) (sel : Nat → Bool) :
    ∃ FL', Inv most (K + 1) (go most thr sel M (th k)).1 FL' (tunT th k (go most thr sel M (th k)).2.1) (G ++ (go most thr sel M (th k)).2.2) := by
  have O := I.ok k hk
  have rO := I.rO k hk
  obtain ⟨held, L, op, ht⟩ : ∃ held L op, th k = ⟨held, L, op⟩ := ⟨_, _, _, rfl⟩
  have ow : ∀ z ∈ ownO op, z < 16 := fun z hz => rO z (by rw [ht]; simp [own, hz])
  rw [show go most thr sel M (th k) = go most thr sel M ⟨held, L, op⟩ by rw [ht]]
  rw [ht] at O
  have Oo : opOk most M ⟨held, L, op⟩ := O.op
  have wlt := I.lt
  cases op with
  | no => exact goes_to rfl (I.line' hk ht (chg_refl M) rfl .no (.inl rfl) trivial)
  | a1 h x =>
    by_cases hn : slI (getW M.ms aF) < 0
    · exact goes_to (show go most thr sel M ⟨held, L, .a1 h x⟩ = (M.load aF, ⟨held, L, .no⟩, []) by simp only [go, if_pos hn]) (I.line' hk ht (chg_load M aF) rfl .no (.inl rfl) trivial)
    · exact goes_to (show go most thr sel M ⟨held, L, .a1 h x⟩ = (M.load aF, ⟨held, L, .a2 (getW M.ms aF) x⟩, []) by simp only [go, if_neg hn]) (I.line' hk ht (chg_load M aF) rfl (.a2 (getW M.ms aF) x) (.inl rfl) ⟨.inr rfl, by omega⟩)
  | a2 h x => exact goes_to rfl (I.line' hk ht (chg_load M _) rfl (.a3 h (slI (getW M.ms (aZ (slI h).toNat 2)))) (.inl rfl) ⟨Oo.1, Oo.2, slI_R _, fun _ => rfl⟩)
  | a3 h x => exact go_a3 I hk hK ht
  | a4 z h x => exact goes_to rfl (I.line' hk ht (chg_load M _) rfl (.a5 z h x) (.inl rfl) Oo)
  | a5 z h x => exact goes_to rfl (I.line' hk ht (chg_load M _) rfl (.a6 z h x (getW M.ms aEra)) (.inl rfl) ⟨Oo, wlt _⟩)
  | a6 z h x e =>
    obtain ⟨c, c1⟩ := chg_field (M := M) (z := z) (f := 1) (u := e) (ow z (by simp [ownO])) (by decide) (by decide) (by decide) Oo.2
    exact goes_to rfl (I.line' hk ht c c1 (.a7 z e) (.inl rfl) (Oo.1.chg c fun h => h))
  | a7 z e =>
    obtain ⟨g, h1, h2⟩ := Oo
    have hh := (hg_of (by decide) (by omega) h2).1
    refine goes_to rfl (I.line' hk ht (chg_load M _) rfl (.a8 z e (hg (getW M.ms (aZ z 0)))) (.inl rfl) ?_)
    show hg (hdr M z) ≤ most ∧ hdr M z = mkw 0 (hg (hdr M z))
    rw [hh]
    exact ⟨h1, h2⟩
  | a8 z e g =>
    refine goes_to rfl (I.hdrS hk ht (s' := 1) hm rfl Oo.1 Oo.2 (by decide) (by decide) (h' := held ++ [(z, g)]) (L' := L) (.mk z g 0) ?_ (fun r hr => ?_) (fun e he => .inl he) ⟨by simp, by omega⟩)
    · show ((held ++ [(z, g)]).map (fun r : RefP => r.1) ++ (L.map Ent.z ++ [])).Perm _
      rw [List.map_append, List.append_nil, List.append_assoc]
      exact List.Perm.append_left _ List.perm_append_comm
    · rcases List.mem_append.1 hr with h | h
      · exact .inl h
      · exact .inr ⟨by simpa using h, rfl⟩
  | mk z g i =>
    obtain ⟨o1, o2⟩ := Oo
    have hz : z < 16 := rO z (by rw [ht]; unfold own; exact List.mem_append.2 (.inl (List.mem_map.2 ⟨_, o1, rfl⟩)))
    obtain ⟨c, c1⟩ := chg_field (M := M) (z := z) (f := 5 + i) (u := mkV i) hz (by omega) (by omega) (by omega) (mkV_lt i)
    by_cases h2 : i = 2
    · exact goes_to (show go most thr sel M ⟨held, L, .mk z g i⟩ = (M.store (aZ z (5 + i)) (mkV i), ⟨held, L, .no⟩, []) by simp only [go, if_pos h2]) (I.line' hk ht c c1 .no (.inl rfl) trivial)
    · exact goes_to (show go most thr sel M ⟨held, L, .mk z g i⟩ = (M.store (aZ z (5 + i)) (mkV i), ⟨held, L, .mk z g (i + 1)⟩, []) by simp only [go, if_neg h2]) (I.line' hk ht c c1 (.mk z g (i + 1)) (.inl rfl) ⟨o1, by show i + 1 ≤ 2; omega⟩)
  | rt l z g b e r =>
    obtain ⟨o1, o2, o3, o4, o5, o6, o7⟩ := Oo
    have hz : z < 16 := ow z (by simp [ownO])
    have hl : l = 1 ∨ l = 2 ∨ l = 3 ∨ l = 4 ∨ l = 5 ∨ l = 6 := by omega
    rcases hl with rfl | rfl | rfl | rfl | rfl | rfl
    · exact goes_to rfl (I.line' hk ht (chg_load M _) rfl (.rt 2 z g b (getW M.ms aEp) r) (.inl rfl) ⟨o1, o2, by decide, by decide, o5, wlt _, o7⟩)
    · exact goes_to rfl (I.line' hk ht (chg_load M _) rfl (.rt 3 z g b e (getW M.ms aEra)) (.inl rfl) ⟨o1, o2, by decide, by decide, o5, o6, wlt _⟩)
    · exact goes_to rfl (I.line' hk ht (chg_load M _) rfl (.rt 4 z g (getW M.ms (aZ z 1)) e r) (.inl rfl) ⟨o1, o2, by decide, by decide, wlt _, o6, o7⟩)
    · obtain ⟨c, c1⟩ := chg_field (M := M) (z := z) (f := 3) (u := e) hz (by decide) (by decide) (by decide) o6
      exact goes_to rfl (I.line' hk ht c c1 (.rt 5 z g b e r) (.inl rfl) ⟨o1, (c.hdr z fun h => h).trans o2, by decide, by decide, o5, o6, o7⟩)
    · obtain ⟨c, c1⟩ := chg_field (M := M) (z := z) (f := 4) (u := r) hz (by decide) (by decide) (by decide) o7
      exact goes_to rfl (I.line' hk ht c c1 (.rt 6 z g b e r) (.inl rfl) ⟨o1, (c.hdr z fun h => h).trans o2, by decide, by decide, o5, o6, o7⟩)
    · have pm : ∀ o' : Op, ownO o' = [] → (held.map (·.1) ++ ((L ++ [Ent.mk z g b e r]).map Ent.z ++ ownO o')).Perm (held.map (·.1) ++ (L.map Ent.z ++ [z])) := fun o' h => by
        rw [h, List.append_nil, List.map_append]
        exact .refl _
      have hL : ∀ x ∈ L ++ [Ent.mk z g b e r], x ∈ L ∨ x.z = z ∧ x.g = g ∧ 2 = 2 := fun x hx => by
        rcases List.mem_append.1 hx with h | h
        · exact .inl h
        · have : x = Ent.mk z g b e r := by simpa using h
          rw [this]
          exact .inr ⟨rfl, rfl, rfl⟩
      by_cases h2 : thr ≤ L.length + 1
      · exact goes_to (show go most thr sel M ⟨held, L, .rt 6 z g b e r⟩ = (M.store (aZ z 0) (mkw 2 g), ⟨held, L ++ [⟨z, g, b, e, r⟩], .sc 0 .s1⟩, []) by simp only [go, if_pos h2]) (I.hdrS hk ht (s' := 2) hm rfl o1 o2 (by decide) (by decide) (h' := held) (L' := L ++ [⟨z, g, b, e, r⟩]) (.sc 0 .s1) (pm _ rfl) (fun r hr => .inl hr) hL trivial)
      · exact goes_to (show go most thr sel M ⟨held, L, .rt 6 z g b e r⟩ = (M.store (aZ z 0) (mkw 2 g), ⟨held, L ++ [⟨z, g, b, e, r⟩], .no⟩, []) by simp only [go, if_neg h2]) (I.hdrS hk ht (s' := 2) hm rfl o1 o2 (by decide) (by decide) (h' := held) (L' := L ++ [⟨z, g, b, e, r⟩]) .no (pm _ rfl) (fun r hr => .inl hr) hL trivial)
  | sc y s =>
    cases s with
    | s1 => exact goes_to rfl (I.line' hk ht (chg_load M _) rfl (.sc (byW (getW M.ms aPh)) .v1) (.inl rfl) trivial)
    | v1 => exact goes_to rfl (I.line' hk ht (chg_load M _) rfl (.sc y (.v2 (getW M.ms aEp))) (.inl rfl) trivial)
    | v2 e => exact goes_to rfl (I.line' hk ht (chg_load M _) rfl (.sc y (.v3 e 0)) (.inl rfl) (Nat.zero_le 3))
    | v3 e i =>
      have Oo : i ≤ 3 := Oo
      by_cases h : i = 3
      · exact goes_to (show go most thr sel M ⟨held, L, .sc y (.v3 e i)⟩ = (M.load (aTh i 3), ⟨held, L, .sc y (.v4 e)⟩, []) by simp only [go, if_pos h]) (I.line' hk ht (chg_load M _) rfl (.sc y (.v4 e)) (.inl rfl) trivial)
      · exact goes_to (show go most thr sel M ⟨held, L, .sc y (.v3 e i)⟩ = (M.load (aTh i 3), ⟨held, L, .sc y (.v3 e (i + 1))⟩, []) by simp only [go, if_neg h]) (I.line' hk ht (chg_load M _) rfl (.sc y (.v3 e (i + 1))) (.inl rfl) (show i + 1 ≤ 3 by omega))
    | v4 e =>
      obtain ⟨c, c1⟩ := chg_casQ (M := M) (a := aEp) (w := e) (u := (e + 1) % 18446744073709551616) (.inl rfl) (Nat.mod_lt _ (by decide))
      exact goes_to rfl (I.line' hk ht c c1 (.sc y .w1) (.inl rfl) trivial)
    | w1 => exact goes_to rfl (I.line' hk ht (chg_load M _) rfl (.sc y (.w2 (getW M.ms aEra))) (.inl rfl) trivial)
    | w2 e =>
      obtain ⟨c, c1⟩ := chg_casQ (M := M) (a := aEra) (w := e) (u := (e + 1) % 18446744073709551616) (.inr (.inl rfl)) (Nat.mod_lt _ (by decide))
      exact goes_to rfl (I.line' hk ht c c1 (.sc y .t1) (.inl rfl) trivial)
    | t1 => exact goes_to rfl (I.line' hk ht (chg_load M _) rfl (.sc y (.t2 0)) (.inl rfl) (Nat.zero_le 3))
    | t2 i =>
      have Oo : i ≤ 3 := Oo
      by_cases h : i = 3
      · exact goes_to (show go most thr sel M ⟨held, L, .sc y (.t2 i)⟩ = (M.load (aTh i 0), ⟨held, L, .sc y .s5⟩, []) by simp only [go, if_pos h]) (I.line' hk ht (chg_load M _) rfl (.sc y .s5) (.inl rfl) trivial)
      · exact goes_to (show go most thr sel M ⟨held, L, .sc y (.t2 i)⟩ = (M.load (aTh i 0), ⟨held, L, .sc y (.t2 (i + 1))⟩, []) by simp only [go, if_neg h]) (I.line' hk ht (chg_load M _) rfl (.sc y (.t2 (i + 1))) (.inl rfl) (show i + 1 ≤ 3 by omega))
    | s5 => exact go_s5 I hk sel ht aEp
  | fr y x goes freed => exact go_fr I hk hK hm ht thr sel
  | dr x => exact go_dr I hk hK hm ht thr sel
end
end Go.Proofs.YtofbdgmknfbkfaaGreatDoor.nodesLife
namespace Go.Proofs.YtofbdgmknfbkfaaGreatDoor.nodesLife
open Go Go.Mini
/-! ### what a step's access is, and what a shadow makes of it -/
structure Acc (most : Nat) (M M' : PM) : Prop where
  was : M'.was < 18446744073709551616
  is : M'.is < 18446744073709551616
  kind : ((M'.a.1 ≠ 9 ∨ 1 ≤ M'.a.2.2 ∧ M'.a.2.2 ≤ 4) ∧ ∀ z, hdr M' z = hdr M z) ∨
    (∃ z, z < 16 ∧ M'.a = aZ z 0 ∧ M'.is = hdr M' z ∧ (∀ y, y ≠ z → hdr M' y = hdr M y) ∧ (M'.is = M'.was ∨ ofF M'.was M'.is most ≠ 0) ∧ mkw (hs M'.is) (hg M'.is) = M'.is) ∨
    (∃ z f, z < 16 ∧ 5 ≤ f ∧ f ≤ 7 ∧ M'.a = aZ z f ∧ (hs (hdr M z) = 1 ∨ hs (hdr M z) = 2) ∧ ∀ y, hdr M' y = hdr M y)
theorem store_ms {M : PM} {a : A3} {u : Nat} (h : mayA a = true) : M.store a u = ⟨putW M.ms a u, inc M.st, 2, a, getW M.ms a, u, false⟩ := by
  unfold PM.store
  rw [if_pos h]
theorem cas_ms {M : PM} {a : A3} {w u : Nat} : (M.cas a w u).a = a ∧ (M.cas a w u).was = getW M.ms a ∧ ((M.cas a w u).is = u ∨ (M.cas a w u).is = getW M.ms a) := by
  unfold PM.cas
  split
  · exact ⟨rfl, rfl, .inl rfl⟩
  · exact ⟨rfl, rfl, .inr rfl⟩
theorem norm_mkw {s g : Nat} (h4 : s ≤ 4) (hg' : g < 4294967296) : mkw (hs (mkw s g)) (hg (mkw s g)) = mkw s g := by
  rw [hs_mkw h4, hg_mkw h4 hg']
section
variable {most : Nat} {M : PM}
theorem acc_load (hl : Lt M) {a : A3} (h : a.1 ≠ 9 ∨ 1 ≤ a.2.2 ∧ a.2.2 ≤ 4) : Acc most M (M.load a) := ⟨hl a, hl a, .inl ⟨h, fun _ => rfl⟩⟩
theorem acc_lhdr (hl : Lt M) {z s g : Nat} (hz : z < 16) (h4 : s ≤ 4) (hg' : g < 4294967296) (h : hdr M z = mkw s g) : Acc most M (M.load (aZ z 0)) :=
  ⟨hl _, hl _, .inr (.inl ⟨z, hz, rfl, rfl, fun _ _ => rfl, .inl rfl, by show mkw (hs (hdr M z)) (hg (hdr M z)) = hdr M z; rw [h]; exact norm_mkw h4 hg'⟩)⟩
theorem acc_field (hl : Lt M) {z f u : Nat} (hz : z < 16) (h1 : 1 ≤ f) (h4 : f ≤ 4) (hu : u < 18446744073709551616) : Acc most M (M.store (aZ z f) u) := by
  have hm := mayZ hz (show f < 8 by omega)
  have e := store_ms (M := M) (u := u) hm
  refine ⟨by rw [e]; exact hl _, by rw [e]; exact hu, .inl ⟨.inr ?_, fun y => ?_⟩⟩
  · rw [e]
    show 1 ≤ Int.ofNat f ∧ Int.ofNat f ≤ 4
    simp only [Int.ofNat_eq_natCast]
    omega
  · unfold hdr
    rw [get_store hm, if_neg fun e => by have := (aZ_inj e).2; omega]
theorem acc_node (hl : Lt M) {z f u : Nat} (hz : z < 16) (h1 : 5 ≤ f) (h4 : f ≤ 7) (hu : u < 18446744073709551616) (hh : hs (hdr M z) = 1 ∨ hs (hdr M z) = 2) : Acc most M (M.store (aZ z f) u) := by
  have hm := mayZ hz (show f < 8 by omega)
  have e := store_ms (M := M) (u := u) hm
  refine ⟨by rw [e]; exact hl _, by rw [e]; exact hu, .inr (.inr ⟨z, f, hz, h1, h4, by rw [e], hh, fun y => ?_⟩)⟩
  unfold hdr
  rw [get_store hm, if_neg fun e => by have := (aZ_inj e).2; omega]
theorem acc_hdr (hl : Lt M) {z s g : Nat} (hz : z < 16) (h4 : s ≤ 4) (hg' : g < 4294967296) (ho : ofF (hdr M z) (mkw s g) most ≠ 0) : Acc most M (M.store (aZ z 0) (mkw s g)) := by
  have hm := mayZ hz (show 0 < 8 by decide)
  have e := store_ms (M := M) (u := mkw s g) hm
  have g0 := get_store (M := M) (u := mkw s g) hm
  refine ⟨by rw [e]; exact hl _, by rw [e]; exact mkw_lt h4 hg', .inr (.inl ⟨z, hz, by rw [e], ?_, fun y hy => ?_, .inr ?_, ?_⟩)⟩
  · unfold hdr
    rw [g0, if_pos rfl, e]
  · unfold hdr
    rw [g0, if_neg fun e => hy (aZ_inj e).1]
  · rw [e]
    exact ho
  · rw [e]
    exact norm_mkw h4 hg'
theorem acc_cas (hl : Lt M) {a : A3} {w u : Nat} (h : a.1 ≠ 9) (hu : u < 18446744073709551616) : Acc most M (M.cas a w u) := by
  obtain ⟨e1, e2, e3⟩ := cas_ms (M := M) (a := a) (w := w) (u := u)
  refine ⟨by rw [e2]; exact hl _, by rcases e3 with e | e; (rw [e]; exact hu); (rw [e]; exact hl _), .inl ⟨.inl (by rw [e1]; exact h), fun y => ?_⟩⟩
  unfold hdr
  rw [get_cas, if_neg fun e => h (by rw [← e.2]; rfl)]
theorem acc_p {α : Type} {r : PM × α} {M' : PM} {y : α} (h : r = (M', y)) (J : Acc most M M') : Acc most M r.1 := by
  rw [h]
  exact J
theorem acc_fgo (hl : Lt M) (hm : most < 4294967296) {s0 : Nat} (h12 : s0 = 1 ∨ s0 = 2) {x : Fr} (hx : frOk most M s0 x) (hz : x.z < 16) : Acc most M (fgo most M x).1 := by
  cases x with
  | f1 z =>
    obtain ⟨g, h1, h2⟩ := hx
    exact acc_p rfl (acc_lhdr hl hz (show s0 ≤ 4 by omega) (by omega) h2)
  | f2 z g =>
    obtain ⟨h1, h2⟩ := hx
    by_cases hg' : most ≤ g
    · have eg : g = most := Nat.le_antisymm h1 hg'
      subst eg
      have e : fgo g M (.f2 z g) = (M.store (aZ z 0) (mkw 4 g), some (.c1 z 0)) := by simp only [fgo, if_pos hg']
      refine acc_p e (acc_hdr hl hz (by decide) hm ?_)
      rw [h2]
      rcases h12 with rfl | rfl
      · rw [of_14 hm]; decide
      · rw [of_24 hm]; decide
    · have e : fgo most M (.f2 z g) = (M.store (aZ z 0) (mkw 0 (g + 1)), some (.f3 z)) := by simp only [fgo, if_neg hg']
      refine acc_p e (acc_hdr hl hz (by decide) (by omega) ?_)
      rw [h2]
      rcases h12 with rfl | rfl
      · rw [of_10 (by omega) hm]; decide
      · rw [of_20 (by omega) hm]; decide
  | f3 z => exact acc_p rfl (acc_load hl (.inl (show (6 : Int) ≠ 9 by decide)))
  | p1 z h => exact acc_p rfl (acc_load hl (.inl (show (0 : Int) ≠ 9 by decide)))
  | p2 z h => exact acc_p rfl (acc_field hl hz (by decide) (by decide) (hdN_lt _ _))
  | p3 z h => exact acc_p rfl (acc_cas hl (show (0 : Int) ≠ 9 by decide) (hdN_lt _ _))
  | c1 z n => exact acc_p rfl (acc_load hl (.inl (show (6 : Int) ≠ 9 by decide)))
  | c2 z n => exact acc_p rfl (acc_cas hl (show (6 : Int) ≠ 9 by decide) (Nat.mod_lt _ (by decide)))
end
theorem go_acc {most K : Nat} {M : PM} {FL : List Nat} {th : Nat → Th} {G : List RefP} {k : Nat} (I : Inv most K M FL th G) (hk : k < 3) (hm : most < 4294967296) (thr : Nat) (sel : Nat → Bool) (hn : (th k).op ≠ .no) : Acc most M (go most thr sel M (th k)).1 := by
  have O := I.ok k hk
  have rO := I.rO k hk
  obtain ⟨held, L, op, ht⟩ : ∃ held L op, th k = ⟨held, L, op⟩ := ⟨_, _, _, rfl⟩
  have ow : ∀ z ∈ ownO op, z < 16 := fun z hz => rO z (by rw [ht]; simp [own, hz])
  rw [ht] at O hn ⊢
  have Oo : opOk most M ⟨held, L, op⟩ := O.op
  have hl := I.lt
  have k0 : (0 : Int) ≠ 9 := by decide
  have k1 : (1 : Int) ≠ 9 := by decide
  have k2 : (2 : Int) ≠ 9 := by decide
  have k3 : (3 : Int) ≠ 9 := by decide
  have k5 : (5 : Int) ≠ 9 := by decide
  have k6 : (6 : Int) ≠ 9 := by decide
  have k8 : (8 : Int) ≠ 9 := by decide
  cases op with
  | no => exact absurd rfl hn
  | a1 h x => exact acc_p rfl (acc_load hl (.inl k0))
  | a2 h x => exact acc_p rfl (acc_load hl (.inr ⟨by simp [aZ], by simp [aZ]⟩))
  | a3 h x => exact acc_p rfl (acc_cas hl k0 (hdN_lt _ _))
  | a4 z h x => exact acc_p rfl (acc_load hl (.inl k6))
  | a5 z h x => exact acc_p rfl (acc_load hl (.inl k2))
  | a6 z h x e => exact acc_p rfl (acc_field hl (ow z (by simp [ownO])) (by decide) (by decide) Oo.2)
  | a7 z e =>
    obtain ⟨g, h1, h2⟩ := Oo
    exact acc_p rfl (acc_lhdr hl (ow z (by simp [ownO])) (show 0 ≤ 4 by decide) (by omega) h2)
  | a8 z e g =>
    obtain ⟨h1, h2⟩ := Oo
    refine acc_p rfl (acc_hdr hl (ow z (by simp [ownO])) (by decide) (by omega) ?_)
    rw [h2, of_01 h1 hm]
    decide
  | mk z g i =>
    obtain ⟨o1, o2⟩ := Oo
    obtain ⟨h1, h2⟩ := O.held _ o1
    refine acc_p rfl (acc_node hl (rO z (by rw [ht]; unfold own; exact List.mem_append.2 (.inl (List.mem_map.2 ⟨_, o1, rfl⟩)))) (by omega) (by omega) (mkV_lt i) (.inl ?_))
    have h2 : hdr M z = mkw 1 g := h2
    rw [h2]
    exact hs_mkw (by decide)
  | rt l z g b e r =>
    obtain ⟨o1, o2, o3, o4, o5, o6, o7⟩ := Oo
    have hz : z < 16 := ow z (by simp [ownO])
    have hll : l = 1 ∨ l = 2 ∨ l = 3 ∨ l = 4 ∨ l = 5 ∨ l = 6 := by omega
    rcases hll with rfl | rfl | rfl | rfl | rfl | rfl
    · exact acc_p rfl (acc_load hl (.inl k1))
    · exact acc_p rfl (acc_load hl (.inl k2))
    · exact acc_p rfl (acc_load hl (.inr ⟨by simp [aZ], by simp [aZ]⟩))
    · exact acc_p rfl (acc_field hl hz (by decide) (by decide) o6)
    · exact acc_p rfl (acc_field hl hz (by decide) (by decide) o7)
    · refine acc_p rfl (acc_hdr hl hz (by decide) (by omega) ?_)
      rw [o2, of_12 o1 hm]
      decide
  | sc y s =>
    cases s with
    | s1 => exact acc_p rfl (acc_load hl (.inl k3))
    | v1 => exact acc_p rfl (acc_load hl (.inl k1))
    | v2 e => exact acc_p rfl (acc_load hl (.inl k5))
    | v3 e i => exact acc_p rfl (acc_load hl (.inl k8))
    | v4 e => exact acc_p rfl (acc_cas hl k1 (Nat.mod_lt _ (by decide)))
    | w1 => exact acc_p rfl (acc_load hl (.inl k2))
    | w2 e => exact acc_p rfl (acc_cas hl k2 (Nat.mod_lt _ (by decide)))
    | t1 => exact acc_p rfl (acc_load hl (.inl k5))
    | t2 i => exact acc_p rfl (acc_load hl (.inl k8))
    | s5 => exact acc_p rfl (acc_load hl (.inl k1))
  | fr y x goes freed =>
    have h := acc_fgo hl hm (.inr rfl) Oo.1 (ow x.z (by simp [ownO]))
    have e : (go most thr sel M ⟨held, L, .fr y x goes freed⟩).1 = (fgo most M x).1 := by
      show (match fgo most M x with
        | (M', some x') => (M', (⟨held, L, .fr y x' goes freed⟩ : Th), ([] : List RefP))
        | (M', none) => (M', ⟨held, L, nextF y goes freed⟩, if goes = [] then freed else [])).1 = _
      split <;> rename_i h <;> rw [h]
    rw [e]
    exact h
  | dr x =>
    have h := acc_fgo hl hm (.inl rfl) Oo (ow x.z (by simp [ownO]))
    have e : (go most thr sel M ⟨held, L, .dr x⟩).1 = (fgo most M x).1 := by
      show (match fgo most M x with
        | (M', some x') => (M', (⟨held, L, .dr x'⟩ : Th), ([] : List RefP))
        | (M', none) => (M', ⟨held, L, .no⟩, [])).1 = _
      split <;> rename_i h <;> rw [h]
    rw [e]
    exact h
/-! ### the shadow -/
abbrev HS := List (Int × Nat)
def getH : HS → Int → Nat
  | [], _ => 0
  | x :: t, z => if z = x.1 then x.2 else getH t z
def putH : HS → Int → Nat → HS
  | [], z, w => [(z, w)]
  | x :: t, z, w => if x.1 = z then (x.1, w) :: t else x :: putH t z w
theorem getH_put {a b : Int} {v : Nat} : ∀ {h : HS}, getH (putH h a v) b = if b = a then v else getH h b
  | [] => by simp only [putH, getH]
  | x :: t => by
    simp only [putH]
    split
    · rename_i h
      subst h
      simp only [getH]
      split <;> rfl
    · rename_i h
      simp only [getH]
      split
      · rename_i h2
        rw [if_neg (fun e => h (e.symm.trans h2).symm)]
      · exact getH_put
def isH (w : Nat) : Bool := hs w == 1 || hs w == 2
def sawP (most : Nat) (H : HS) (a : A3) (was is : Nat) : HS × Nat :=
  if a.1 = 9 ∧ 0 ≤ a.2.1 ∧ a.2.1 < 256 then
    if a.2.2 = 0 then (putH H a.2.1 is, if is ≠ was ∧ ofF was is most = 0 then 1 else 0)
    else if 5 ≤ a.2.2 ∧ a.2.2 ≤ 7 then (H, if isH (getH H a.2.1) then 0 else 2)
    else (H, 0)
  else (H, 0)
def Sa (H : HS) (M : PM) : Prop := ∀ z : Nat, getH H (Int.ofNat z) = hdr M z
theorem saw_ok {most : Nat} {M M' : PM} {H : HS} (s : Sa H M) (c : Acc most M M') : (sawP most H M'.a M'.was M'.is).2 = 0 ∧ Sa (sawP most H M'.a M'.was M'.is).1 M' := by
  unfold sawP
  rcases c.kind with ⟨h1, h2⟩ | ⟨z, h1, h2, h3, h4, h5, h6⟩ | ⟨z, f, h1, h2, h3, h4, h5, h6⟩
  · have q : ∀ z : Nat, getH H (Int.ofNat z) = hdr M' z := fun z => (s z).trans (h2 z).symm
    split
    · rename_i h
      rcases h1 with h1 | h1
      · exact absurd h.1 h1
      · rw [if_neg (by omega), if_neg (by omega)]
        exact ⟨rfl, q⟩
    · exact ⟨rfl, q⟩
  · rw [h2, if_pos ⟨rfl, by show 0 ≤ Int.ofNat z; simp only [Int.ofNat_eq_natCast]; omega, by show Int.ofNat z < 256; simp only [Int.ofNat_eq_natCast]; omega⟩, if_pos (show (aZ z 0).2.2 = 0 from rfl)]
    refine ⟨?_, fun y => ?_⟩
    · show (if M'.is ≠ M'.was ∧ ofF M'.was M'.is most = 0 then 1 else 0) = 0
      rw [if_neg]
      rintro ⟨a, b⟩
      rcases h5 with h5 | h5
      · exact a h5
      · exact h5 b
    · show getH (putH H (Int.ofNat z) M'.is) (Int.ofNat y) = _
      rw [getH_put]
      split
      · rename_i h
        have : y = z := by simp only [Int.ofNat_eq_natCast] at h; omega
        rw [this, h3]
      · rename_i h
        rw [h4 y (fun e => h (by rw [e]))]
        exact s y
  · rw [h4, if_pos ⟨rfl, by show 0 ≤ Int.ofNat z; simp only [Int.ofNat_eq_natCast]; omega, by show Int.ofNat z < 256; simp only [Int.ofNat_eq_natCast]; omega⟩, if_neg (show ¬ (aZ z f).2.2 = 0 by show ¬ Int.ofNat f = 0; simp only [Int.ofNat_eq_natCast]; omega),
      if_pos (show 5 ≤ (aZ z f).2.2 ∧ (aZ z f).2.2 ≤ 7 by show 5 ≤ Int.ofNat f ∧ Int.ofNat f ≤ 7; simp only [Int.ofNat_eq_natCast]; omega)]
    refine ⟨?_, fun y => (s y).trans (h6 y).symm⟩
    show (if isH (getH H (Int.ofNat z)) = true then 0 else 2) = 0
    rw [s z, if_pos]
    unfold isH
    rcases h5 with h5 | h5 <;> rw [h5] <;> rfl
/-- What a ref that is held is, and one that was freed. -/
def fineP (H : HS) (r : RefP) : Bool := isH (getH H (Int.ofNat r.1)) && hg (getH H (Int.ofNat r.1)) == r.2
theorem fine_held {most : Nat} {M : PM} {H : HS} {t : Th} (s : Sa H M) (O : ThOk most M t) (hm : most < 4294967296) : ∀ r ∈ t.held, fineP H r = true := fun r hr => by
  obtain ⟨h1, h2⟩ := O.held r hr
  unfold fineP isH
  rw [s, h2, hs_mkw (by decide), hg_mkw (by decide) (by omega)]
  simp
theorem fine_dead {M : PM} {H : HS} (s : Sa H M) {r : RefP} (d : dead M r) : fineP H r = false := by
  unfold fineP isH
  rw [s]
  rcases d with d | d
  · have : (hg (hdr M r.1) == r.2) = false := by simp; omega
    rw [this, Bool.and_false]
  · rw [d]
    rfl
/-- Something begins. -/
def beginT (w : Nat) (t : Th) : Th := match t.held with
  | [] => ⟨[], t.L, .a1 0 0⟩
  | (z, g) :: l => if w % 3 = 0 then ⟨t.held, t.L, .a1 0 0⟩ else if w % 3 = 1 then ⟨l, t.L, .rt 1 z g 0 0 0⟩ else ⟨l, t.L, .dr (.f1 z)⟩
theorem begin_ok {most K : Nat} {M : PM} {FL : List Nat} {th : Nat → Th} {G : List RefP} {k : Nat} (I : Inv most K M FL th G) (hk : k < 3) (w : Nat) (hn : (th k).op = .no) : Inv most (K + 1) M FL (tunT th k (beginT w (th k))) (G ++ []) := by
  have O := I.ok k hk
  have no := I.nO k hk
  obtain ⟨held, L, op, ht⟩ : ∃ held L op, th k = ⟨held, L, op⟩ := ⟨_, _, _, rfl⟩
  rw [ht] at O hn ⊢
  have hn : op = .no := hn
  subst hn
  have e0 : own (th k) = held.map (·.1) ++ (L.map Ent.z ++ []) := by rw [ht]; rfl
  have q : ∀ (h' : List RefP) (o' : Op), (h'.map (fun r : RefP => r.1) ++ (L.map Ent.z ++ ownO o')).Perm (held.map (fun r : RefP => r.1) ++ (L.map Ent.z ++ [])) → (∀ r ∈ h', r ∈ held) → opOk most M ⟨h', L, o'⟩ → Inv most (K + 1) M FL (tunT th k ⟨h', L, o'⟩) (G ++ []) := fun h' o' pm hs' ok' =>
    I.quiet (t' := ⟨h', L, o'⟩) hk (chg_refl M) (fun _ h => h.elim) rfl (pm.nodup_iff.2 (by rw [← e0]; exact no)) (fun y hy => by rw [e0]; exact pm.mem_iff.1 hy) ⟨fun r hr => O.held r (hs' r hr), O.L, ok'⟩ (fun r hr => by cases hr)
  cases held with
  | nil => exact q [] (.a1 0 0) (.refl _) (fun r h => h) trivial
  | cons r l =>
    obtain ⟨z, g⟩ := r
    have hz := O.held (z, g) List.mem_cons_self
    have pm : ∀ o', ownO o' = [z] → (l.map (fun r : RefP => r.1) ++ (L.map Ent.z ++ ownO o')).Perm (((z, g) :: l).map (fun r : RefP => r.1) ++ (L.map Ent.z ++ [])) := fun o' h => by
      rw [h, ← List.append_assoc, List.append_nil]
      exact List.perm_append_comm
    unfold beginT
    show Inv most (K + 1) M FL (tunT th k (if w % 3 = 0 then ⟨(z, g) :: l, L, .a1 0 0⟩ else if w % 3 = 1 then ⟨l, L, .rt 1 z g 0 0 0⟩ else ⟨l, L, .dr (.f1 z)⟩)) (G ++ [])
    split
    · exact q _ (.a1 0 0) (.refl _) (fun r h => h) trivial
    · split
      · exact q l (.rt 1 z g 0 0 0) (pm _ rfl) (fun r h => List.mem_cons_of_mem _ h) ⟨hz.1, hz.2, by decide, by decide, by decide, by decide, by decide⟩
      · exact q l (.dr (.f1 z)) (pm _ rfl) (fun r h => List.mem_cons_of_mem _ h) ⟨g, hz.1, hz.2⟩
end Go.Proofs.YtofbdgmknfbkfaaGreatDoor.nodesLife
namespace Go.Proofs.YtofbdgmknfbkfaaGreatDoor.nodesLife
open Go Go.Mini
/-! ### a scan's list is not empty -/
end Go.Proofs.YtofbdgmknfbkfaaGreatDoor.nodesLife
namespace Go.Proofs.YtofbdgmknfbkfaaGreatDoor.nodesLife
open Go Go.Mini
/-! ### what else holds of a thread -/
def frW : Fr → Prop
  | .p2 _ h => h < 18446744073709551616
  | .p3 _ h => h < 18446744073709551616
  | _ => True
def opW (L : List Ent) : Op → Prop
  | .a2 h _ => h < 18446744073709551616
  | .a3 h _ => h < 18446744073709551616
  | .sc _ _ => L ≠ []
  | .fr _ x goes freed => frW x ∧ freed ≠ [] ∧ freed.length + goes.length ≤ 16
  | .dr x => frW x
  | _ => True
structure ExT (t : Th) : Prop where
  e : ∀ e ∈ t.L, e.e < 18446744073709551616
  op : opW t.L t.op
theorem pr_some {α β : Type} {a a' : α} {x y : β} (h : (a, some x) = (a', some y)) : x = y := by
  cases h
  rfl
theorem pr_none {α β : Type} {a a' : α} {y : β} (h : (a, none) = (a', some y)) : False := by
  cases h
theorem frW_go {most : Nat} {M M' : PM} {x x' : Fr} (hl : Lt M) (hx : frW x) (h : fgo most M x = (M', some x')) : frW x' := by
  cases x with
  | f1 z =>
    have e : fgo most M (.f1 z) = (M.load (aZ z 0), some (.f2 z (hg (getW M.ms (aZ z 0))))) := rfl
    rw [e] at h
    rw [← pr_some h]
    trivial
  | f2 z g =>
    by_cases hg' : most ≤ g
    · have e : fgo most M (.f2 z g) = (M.store (aZ z 0) (mkw 4 g), some (.c1 z 0)) := by simp only [fgo, if_pos hg']
      rw [e] at h
      rw [← pr_some h]
      trivial
    · have e : fgo most M (.f2 z g) = (M.store (aZ z 0) (mkw 0 (g + 1)), some (.f3 z)) := by simp only [fgo, if_neg hg']
      rw [e] at h
      rw [← pr_some h]
      trivial
  | f3 z =>
    have e : fgo most M (.f3 z) = (M.load (aSg (z / 8) 0), some (.p1 z 0)) := rfl
    rw [e] at h
    rw [← pr_some h]
    trivial
  | p1 z h' =>
    have e : fgo most M (.p1 z h') = (M.load aF, some (.p2 z (getW M.ms aF))) := rfl
    rw [e] at h
    rw [← pr_some h]
    exact hl aF
  | p2 z h' =>
    have e : fgo most M (.p2 z h') = (M.store (aZ z 2) (hdN (slI h') 0), some (.p3 z h')) := rfl
    rw [e] at h
    rw [← pr_some h]
    exact hx
  | p3 z h' =>
    cases hc : M.casd aF h' with
    | false =>
      have e : fgo most M (.p3 z h') = (M.cas aF h' (hdN (Int.ofNat z) (tgN h' + 1)), some (.p1 z h')) := by simp [fgo, hc]
      rw [e] at h
      rw [← pr_some h]
      trivial
    | true =>
      have e : fgo most M (.p3 z h') = (M.cas aF h' (hdN (Int.ofNat z) (tgN h' + 1)), none) := by simp [fgo, hc]
      rw [e] at h
      exact (pr_none h).elim
  | c1 z n =>
    have e : fgo most M (.c1 z n) = (M.load (aSg (z / 8) 1), some (.c2 z (getW M.ms (aSg (z / 8) 1)))) := rfl
    rw [e] at h
    rw [← pr_some h]
    trivial
  | c2 z n =>
    cases hc : M.casd (aSg (z / 8) 1) n with
    | false =>
      have e : fgo most M (.c2 z n) = (M.cas (aSg (z / 8) 1) n ((n + 1) % 18446744073709551616), some (.c1 z n)) := by simp [fgo, hc]
      rw [e] at h
      rw [← pr_some h]
      trivial
    | true =>
      have e : fgo most M (.c2 z n) = (M.cas (aSg (z / 8) 1) n ((n + 1) % 18446744073709551616), none) := by simp [fgo, hc]
      rw [e] at h
      exact (pr_none h).elim
theorem pick_mem {sel : Nat → Bool} {e : Ent} : ∀ {l : List Ent} {i : Nat}, e ∈ pick sel i l → e ∈ l
  | [], _, h => h
  | x :: l, i, h => by
    simp only [pick] at h
    split at h
    · rcases List.mem_cons.1 h with rfl | h
      · exact List.mem_cons_self
      · exact List.mem_cons_of_mem _ (pick_mem h)
    · exact List.mem_cons_of_mem _ (pick_mem h)
theorem pick_len {sel : Nat → Bool} : ∀ {l : List Ent} {i : Nat}, (pick sel i l).length ≤ l.length
  | [], _ => Nat.le_refl _
  | x :: l, i => by
    simp only [pick]
    split
    · simp only [List.length_cons]
      exact Nat.succ_le_succ pick_len
    · simp only [List.length_cons]
      exact Nat.le_succ_of_le pick_len
theorem nd_f (a : Nat) : ∀ {l : List Nat}, l.Nodup → l.length ≤ (l.filter fun x => x != a).length + 1
  | [], _ => Nat.zero_le _
  | x :: t, h => by
    obtain ⟨h1, h2⟩ := List.nodup_cons.1 h
    by_cases e : x = a
    · subst e
      have : (t.filter fun y => y != x) = t := List.filter_eq_self.2 fun y hy => by
        have : y ≠ x := fun e => h1 (e ▸ hy)
        simpa using this
      rw [List.filter_cons_of_neg (by simp), this]
      exact Nat.le_refl _
    · have := nd_f a h2
      rw [List.filter_cons_of_pos (by simpa using e), List.length_cons, List.length_cons]
      omega
theorem nd_len : ∀ (n : Nat) (l : List Nat), l.Nodup → (∀ x ∈ l, x < n) → l.length ≤ n
  | 0, l, _, h2 => by
    cases l with
    | nil => exact Nat.le_refl _
    | cons x t => exact absurd (h2 x List.mem_cons_self) (Nat.not_lt_zero x)
  | n + 1, l, h1, h2 => by
    have := nd_f n h1
    have := nd_len n (l.filter fun x => x != n) (List.Pairwise.filter _ h1) fun x hx => by
      obtain ⟨h3, h4⟩ := List.mem_filter.1 hx
      have h5 := h2 x h3
      have : x ≠ n := by simpa using h4
      omega
    omega
theorem Inv.len {most K : Nat} {M : PM} {FL : List Nat} {th : Nat → Th} {G : List RefP} {k : Nat} (I : Inv most K M FL th G) (hk : k < 3) : (th k).L.length + (th k).held.length ≤ 16 := by
  have h1 := I.nO k hk
  have h2 := I.rO k hk
  have := nd_len 16 _ h1 h2
  unfold own at this
  rw [List.length_append, List.length_append, List.length_map, List.length_map] at this
  omega
theorem ex_next {held : List RefP} {L : List Ent} {y : Nat} {goes : List Ent} {freed : List RefP} (h1 : ∀ e ∈ L, e.e < 18446744073709551616) (h2 : freed.length + goes.length ≤ 16) : ExT ⟨held, L, nextF y goes freed⟩ := by
  refine ⟨h1, ?_⟩
  cases goes with
  | nil => trivial
  | cons e l =>
    refine ⟨trivial, by simp, ?_⟩
    rw [List.length_append]
    simp only [List.length_cons, List.length_nil] at h2 ⊢
    omega
theorem go_ex {most K thr : Nat} {M : PM} {FL : List Nat} {th : Nat → Th} {G : List RefP} {k : Nat} (I : Inv most K M FL th G) (hk : k < 3) (sel : Nat → Bool) (h : ExT (th k)) : ExT (go most thr sel M (th k)).2.1 := by
  have hl := I.lt
  have hlen := I.len hk
  have O := (I.ok k hk).op
  obtain ⟨held, L, op, ht⟩ : ∃ held L op, th k = ⟨held, L, op⟩ := ⟨_, _, _, rfl⟩
  rw [ht] at h hlen O ⊢
  obtain ⟨hE, hO⟩ := h
  have hE : ∀ e ∈ L, e.e < 18446744073709551616 := hE
  have hO : opW L op := hO
  have hlen : L.length + held.length ≤ 16 := hlen
  have tr : ∀ {held' : List RefP} {o : Op}, opW L o → ExT ⟨held', L, o⟩ := fun h => ⟨hE, h⟩
  cases op with
  | no => exact ⟨hE, trivial⟩
  | a1 h x =>
    refine tr ?_
    split
    · trivial
    · exact hl _
  | a2 h x => exact tr hO
  | a3 h x =>
    refine tr ?_
    split <;> trivial
  | a4 z h x => exact tr trivial
  | a5 z h x => exact tr trivial
  | a6 z h x e => exact tr trivial
  | a7 z e => exact tr trivial
  | a8 z e g => exact tr trivial
  | mk z g k =>
    refine tr ?_
    split <;> trivial
  | rt l z g b e r =>
    have O : opOk most M ⟨held, L, .rt l z g b e r⟩ := O
    obtain ⟨o1, o2, o3, o4, o5, o6, o7⟩ := O
    have hll : l = 1 ∨ l = 2 ∨ l = 3 ∨ l = 4 ∨ l = 5 ∨ l = 6 := by omega
    rcases hll with rfl | rfl | rfl | rfl | rfl | rfl
    · exact tr trivial
    · exact tr trivial
    · exact tr trivial
    · exact tr trivial
    · exact tr trivial
    · refine ⟨fun e' he => ?_, ?_⟩
      · have he : e' ∈ L ++ [⟨z, g, b, e, r⟩] := he
        rcases List.mem_append.1 he with he | he
        · exact hE e' he
        · rw [List.mem_singleton.1 he]
          exact o6
      · show opW (L ++ [⟨z, g, b, e, r⟩]) (if thr ≤ L.length + 1 then .sc 0 .s1 else .no)
        split
        · show L ++ [_] ≠ []
          simp
        · trivial
  | sc y s =>
    cases s with
    | s1 => exact tr hO
    | v1 => exact tr hO
    | v2 e => exact tr hO
    | v3 e i => exact tr hO
    | v4 e => exact tr hO
    | w1 => exact tr hO
    | w2 e => exact tr hO
    | t1 => exact tr hO
    | t2 i => exact tr hO
    | s5 =>
      refine ex_next (fun e he => hE e (pick_mem he)) ?_
      have := pick_len (sel := sel) (l := L) (i := 0)
      simp only [List.length_nil]
      omega
  | fr y x goes freed =>
    obtain ⟨h1, h2, h3⟩ := hO
    show ExT (match fgo most M x with
      | (M', some x') => (M', (⟨held, L, .fr y x' goes freed⟩ : Th), ([] : List RefP))
      | (M', none) => (M', ⟨held, L, nextF y goes freed⟩, if goes = [] then freed else [])).2.1
    split
    · rename_i e
      exact tr ⟨frW_go hl h1 e, h2, h3⟩
    · exact ex_next hE h3
  | dr x =>
    show ExT (match fgo most M x with
      | (M', some x') => (M', (⟨held, L, .dr x'⟩ : Th), ([] : List RefP))
      | (M', none) => (M', ⟨held, L, .no⟩, [])).2.1
    split
    · rename_i e
      exact tr (frW_go hl hO e)
    · exact tr trivial
theorem begin_ex {w : Nat} {t : Th} (h : ExT t) : ExT (beginT w t) := by
  have hE := h.e
  unfold beginT
  split
  · exact ⟨hE, trivial⟩
  · split
    · exact ⟨hE, trivial⟩
    · split <;> exact ⟨hE, trivial⟩
end Go.Proofs.YtofbdgmknfbkfaaGreatDoor.nodesLife
