/- The sweep: its second loop. Conditions: those that each theorem names, and no others. -/
import Derived.Test.YtofbdgmknfbkfaaGreatDoorLife9
namespace Go.Mini
open Go Go.RowKit
section
variable {P : Program} {bs bs1 bs2 : List (Nat × AObj)} {Fz : List (Nat × List AV)} {s s2 : AS} {π : Nat → Nat} {nx0 : Nat}
/-- What lies elsewhere, or is new, does not matter. -/
theorem At.low (A : At P bs Fz s π) (h : ∀ c, c < s.nx → s2.get c = s.get c) (hk : ∀ k ∈ s2.h.bs.map (·.1), k < s2.nx) (hn : s.nx ≤ s2.nx) : At P bs Fz s2 π ∧ Moved nx0 bs bs π π (fun c => c) s s2 := by
  refine ⟨⟨A.glob, fun x hx => ?_, A.out, A.inj, eachX_all fun x hx => ?_, hk⟩, fun b hb => .inl ⟨b, hb, rfl⟩, fun _ _ _ => rfl, fun c hc _ => h c hc, hn⟩
  · obtain ⟨ro, hr⟩ := A.fz x hx
    exact ⟨ro, by rw [h _ (A.keys _ (getB_mem hr))]; exact hr⟩
  · rw [h _ (A.lt (List.mem_map.2 ⟨x, hx, rfl⟩))]
    exact eachX_mem A.at_ x hx
theorem push_keys {s : AS} {o : AObj} (h : ∀ k ∈ s.h.bs.map (·.1), k < s.nx) : ∀ k ∈ (s.push o).h.bs.map (·.1), k < (s.push o).nx := fun k hk => by
  simp only [AS.push, List.map_cons, List.mem_cons] at hk
  rcases hk with rfl | hk
  · exact Nat.lt_succ_self _
  · exact Nat.lt_succ_of_lt (h k hk)
theorem At.pushG (A : At P bs Fz s π) (o : AObj) : At P bs Fz (s.push o) π ∧ Moved nx0 bs bs π π (fun c => c) s (s.push o) := A.low (fun c hc => by rw [get_push, if_neg (by omega)]) (push_keys A.keys) (Nat.le_succ _)
def tunB (π : Nat → Nat) (b n : Nat) : Nat → Nat := fun c => if c = b then n else π c
def kB (b : Nat) : Nat → Nat := fun c => if c = b then c + 1 else c
/-- A new block gets a name. -/
theorem At.newB {b : Nat} {o : AObj} (A : At P (bs1 ++ bs2) Fz s π) (hb : b ∉ (bs1 ++ bs2).map (·.1)) (hg : P.globals.size ≤ b) (hz : ∀ x ∈ Fz, x.1 ≠ b) (hnm : ∀ x ∈ bs1 ++ bs2, x.2.names (fun c => !Nat.beq c b) = true) (ho : o.names (fun _ => false) = true) :
    At P (bs1 ++ (b, o) :: bs2) Fz (s.push o) (tunB π b s.nx) ∧ Moved nx0 (bs1 ++ bs2) (bs1 ++ (b, o) :: bs2) π (tunB π b s.nx) (kB b) s (s.push o) := by
  have e1 : ∀ c, c ≠ b → tunB π b s.nx c = π c := fun c hc => if_neg hc
  have e2 : tunB π b s.nx b = s.nx := if_pos rfl
  have ins : ∀ x, x ∈ bs1 ++ (b, o) :: bs2 → x = (b, o) ∨ x ∈ bs1 ++ bs2 := fun x hx => by
    rcases List.mem_append.1 hx with h | h
    · exact .inr (List.mem_append.2 (.inl h))
    · rcases List.mem_cons.1 h with h | h
      · exact .inl h
      · exact .inr (List.mem_append.2 (.inr h))
  have ne : ∀ x ∈ bs1 ++ bs2, x.1 ≠ b := fun x hx e => hb (e ▸ List.mem_map.2 ⟨x, hx, rfl⟩)
  have lt : ∀ x ∈ bs1 ++ bs2, π x.1 < s.nx := fun x hx => A.lt (List.mem_map.2 ⟨x, hx, rfl⟩)
  have get : ∀ c, c < s.nx → (s.push o).get c = s.get c := fun c hc => by rw [get_push, if_neg (by omega)]
  refine ⟨⟨fun g hg' => by rw [e1 g (by omega)]; exact A.glob g hg', fun x hx => ?_, fun c hc x hx => ?_, fun c hc d hd e => ?_, eachX_all fun x hx => ?_, push_keys A.keys⟩, fun c hc => ?_, fun c _ hk => ?_, fun c hc _ => get c hc, Nat.le_succ _⟩
  · obtain ⟨ro, hr⟩ := A.fz x hx
    exact ⟨ro, by rw [e1 _ (hz x hx), get _ (A.keys _ (getB_mem hr))]; exact hr⟩
  · obtain ⟨y, hy, rfl⟩ := List.mem_map.1 hc
    obtain ⟨ro, hr⟩ := A.fz x hx
    have hlt := A.keys _ (getB_mem hr)
    rw [e1 _ (hz x hx)]
    rcases ins y hy with rfl | hy
    · rw [e2]
      omega
    · rw [e1 _ (ne y hy)]
      exact A.out _ (List.mem_map.2 ⟨y, hy, rfl⟩) x hx
  · obtain ⟨y, hy, rfl⟩ := List.mem_map.1 hc
    obtain ⟨z, hz', rfl⟩ := List.mem_map.1 hd
    rcases ins y hy with rfl | hy <;> rcases ins z hz' with rfl | hz'
    · rfl
    · have := lt z hz'
      rw [e2, e1 _ (ne z hz')] at e
      omega
    · have := lt y hy
      rw [e2, e1 _ (ne y hy)] at e
      omega
    · rw [e1 _ (ne y hy), e1 _ (ne z hz')] at e
      exact A.inj2 hy hz' e
  · rcases ins x hx with rfl | hx
    · rw [e2, get_push, if_pos rfl]
      congr 1
      rw [oren_congr (p := fun _ => false) (π' := fun c => c) (fun _ h => by cases h) ho, oren_id]
    · rw [e1 _ (ne x hx), get _ (lt x hx), eachX_mem A.at_ x hx]
      congr 1
      refine (oren_congr (p := fun c => !Nat.beq c b) (fun c hc => e1 c fun e => ?_) (hnm x hx)).symm
      rw [e, Nat.beq_refl] at hc
      cases hc
  · obtain ⟨y, hy, rfl⟩ := List.mem_map.1 hc
    rcases ins y hy with rfl | hy
    · exact .inr (by rw [e2]; exact Nat.le_refl _)
    · exact .inl ⟨y.1, List.mem_map.2 ⟨y, hy, rfl⟩, e1 _ (ne y hy)⟩
  · have hk : (if c = b then c + 1 else c) = c := hk
    refine e1 c fun e => ?_
    rw [if_pos e] at hk
    omega
/-- A block is left, another one has its name. -/
theorem At.mvB {b : Nat} {o o' : AObj} (A : At P (bs1 ++ (b, o) :: bs2) Fz s π) (hb : b ∉ (bs1 ++ bs2).map (·.1)) (hg : P.globals.size ≤ b) (hz : ∀ x ∈ Fz, x.1 ≠ b) (hnm : ∀ x ∈ bs1 ++ bs2, x.2.names (fun c => !Nat.beq c b) = true) (ho : o'.names (fun _ => false) = true) :
    At P (bs1 ++ (b, o') :: bs2) Fz ((s.set (π b) .dead).push o') (tunB π b s.nx) ∧ Moved nx0 (bs1 ++ (b, o) :: bs2) (bs1 ++ (b, o') :: bs2) π (tunB π b s.nx) (kB b) s ((s.set (π b) .dead).push o') := by
  obtain ⟨A1, M1⟩ := At.put (nx0 := nx0) (o' := .dead) A hb (s2 := s.set (π b) .dead) rfl rfl
  have A2 : At P (bs1 ++ bs2) Fz (s.set (π b) .dead) π := A1.sub fun x hx => by
    rcases List.mem_append.1 hx with h | h
    · exact List.mem_append.2 (.inl h)
    · exact List.mem_append.2 (.inr (List.mem_cons_of_mem _ h))
  obtain ⟨A3, M3⟩ := At.newB (nx0 := nx0) (o := o') A2 hb hg hz hnm ho
  refine ⟨A3, fun c hc => ?_, M3.low, fun c hc hd => ?_, Nat.le_succ _⟩
  · rcases M3.old c hc with ⟨d, hd, e⟩ | e
    · refine .inl ⟨d, ?_, e⟩
      obtain ⟨x, hx, rfl⟩ := List.mem_map.1 hd
      refine List.mem_map.2 ⟨x, ?_, rfl⟩
      rcases List.mem_append.1 hx with h | h
      · exact List.mem_append.2 (.inl h)
      · exact List.mem_append.2 (.inr (List.mem_cons_of_mem _ h))
    · exact .inr e
  · rw [get_push, if_neg (by show ¬ s.nx = c; omega)]
    exact M1.rest c hc hd
end
end Go.Mini
namespace Go.Proofs.YtofbdgmknfbkfaaGreatDoor.nodesLife
open Go Go.Mini
/-! ### List.Sweep's loop -/
def oV (p : Nat) (l : List Ent) : AV := match l with
  | [] => .nilSlice
  | _ :: _ => .osl p 0 l.length 6
def oB (b : Nat) (l : List Ent) : List (Nat × AObj) := match l with
  | [] => []
  | _ :: _ => [(b, .cells false (entsC l))]
theorem oV_ne {p : Nat} {l : List Ent} {e : Ent} : oV p (l ++ [e]) = .osl p 0 (l.length + 1) 6 := by
  cases l with
  | nil => rfl
  | cons x l => show AV.osl p 0 ((x :: (l ++ [e])).length) 6 = _; rw [← List.cons_append, List.length_append]; rfl
theorem oB_ne {b : Nat} {l : List Ent} {e : Ent} : oB b (l ++ [e]) = [(b, .cells false (entsC l ++ entC e))] := by
  have h : oB b (l ++ [e]) = [(b, .cells false (entsC (l ++ [e])))] := by cases l <;> rfl
  rw [h, entsC_app]
  show [(b, AObj.cells false (entsC l ++ (entC e ++ [])))] = _
  rw [List.append_nil]
/-- An entry is appended to a row, or to none. -/
theorem app_row {B1 B2 : List (Nat × AObj)} {b lb : Nat} {l : List Ent} {e : Ent} {s : AS} {π : Nat → Nat} (A : At Tryz.prog (B1 ++ (oB b l ++ B2)) GF s π) (hb : b ∉ (B1 ++ B2).map (·.1)) (hg : 2 ≤ b) (hnm : ∀ x ∈ B1 ++ B2, x.2.names (fun c => !Nat.beq c b) = true) (hl : l.length < 1000) (hlb : s.get lb = some (.cells false (entC e))) :
    ∃ s2 π2, appendA Tryz.prog s 138 138 (oV (π b) l) (.slice lb 0 1 1) = some (oV (π2 b) (l ++ [e]), s2) ∧ At Tryz.prog (B1 ++ (oB b (l ++ [e]) ++ B2)) GF s2 π2 ∧ Moved 24 (B1 ++ (oB b l ++ B2)) (B1 ++ (oB b (l ++ [e]) ++ B2)) π π2 (kB b) s s2 := by
  have hg' : Tryz.prog.globals.size ≤ b := by rw [glN]; exact hg
  have hz : ∀ x ∈ GF, x.1 ≠ b := fun x hx => by have := (gz x hx).1; omega
  rw [oB_ne]
  have t2 : tunB π b s.nx b = s.nx := if_pos rfl
  cases l with
  | nil =>
    obtain ⟨A2, M2⟩ := At.newB (nx0 := 24) (o := .cells false (entC e)) A hb hg' hz hnm rfl
    refine ⟨_, _, ?_, A2, M2⟩
    rw [oV_ne, t2]
    exact app_nil rowE hlb rfl rfl
  | cons x l =>
    have gb : s.get (π b) = some (.cells false (entsC (x :: l))) := by
      have := at_g A (b := b) (o := .cells false (entsC (x :: l))) (by simp [oB])
      rwa [raw_ren (show (AObj.cells false (entsC (x :: l))).names (fun _ => false) = true from entsC_names _ _)] at this
    obtain ⟨A2, M2⟩ := At.mvB (nx0 := 24) (o' := .cells false (entsC (x :: l) ++ entC e)) A hb hg' hz hnm (namess_app (entsC_names _ _) rfl)
    refine ⟨_, _, ?_, A2, M2⟩
    rw [oV_ne, t2]
    exact app_osl rowE gb (entsC_len _) (entsC_one _) hlb rfl rfl (by omega)
end Go.Proofs.YtofbdgmknfbkfaaGreatDoor.nodesLife
namespace Go.Mini
theorem Moved.weak {nx0 : Nat} {bs bs' : List (Nat × AObj)} {π π' κ κ' : Nat → Nat} {s s' : AS} (h : Moved nx0 bs bs' π π' κ s s') (hk : ∀ c, κ' c = c → κ c = c) : Moved nx0 bs bs' π π' κ' s s' := ⟨h.old, fun b hb e => h.low b hb (hk b e), h.rest, h.nx⟩
end Go.Mini
namespace Go.Proofs.YtofbdgmknfbkfaaGreatDoor.nodesLife
open Go Go.Mini
/-! ### List.Sweep's loop: all rounds -/
def kW (c : Nat) : Nat := if c = 20 ∨ c = 21 then c + 1 else c
theorem kW_B {b : Nat} (h : b = 20 ∨ b = 21) : ∀ c, kW c = c → kB b c = c := fun c hc => by
  unfold kW at hc
  unfold kB
  by_cases e : c = b
  · rw [if_pos (by omega)] at hc
    omega
  · exact if_neg e
def HadC (l : List (Int × Nat)) (L : List Ent) : Prop := l.Nodup ∧ ∀ a, a ∈ l ↔ a ∈ L.map fun e => (Int.ofNat e.z, e.g)
def base (L : List Ent) (vs : List Bool) (M : PM) : List (Nat × AObj) := memP M ++ [(11, liV (.osl 12 0 L.length 6) (.map 13)), (12, .cells false (entsC L)), (23, .cells false (bools vs))]
def swB (L : List Ent) (vs : List Bool) (M : PM) (O13 : AObj) (out left : List Ent) (X : List (Nat × AObj)) : List (Nat × AObj) := base L vs M ++ (13, O13) :: (oB 20 out ++ (oB 21 left ++ X))
theorem idxO (b n i : Nat) (h : i < n) : indexAddrA Tryz.prog 138 (.osl b 0 n 6) (i64 (Int.ofNat i)) = some (.ptr b (i * 6)) := by
  simp only [indexAddrA, i64, uE, zE]
  rw [if_pos ⟨Int.natCast_nonneg i, by simp only [Int.ofNat_eq_natCast]; omega⟩]
  simp
theorem aMp : isAggA Tryz.prog 191 = some false := by kernel_rfl
theorem ldE0 {s : AS} {b : Nat} {e : Ent} (hs : s.get b = some (.cells false (entC e))) : loadA Tryz.prog s 197 (.ptr b 0) = some (.agg (ent6 (Int.ofNat e.z) e.g e.b e.e e.r)) := by
  simp only [loadA, aEn, zE, readA, hs]
  rfl
theorem ldR0 {s : AS} {b : Nat} {e : Ent} (hs : s.get b = some (.cells false (entC e))) : loadA Tryz.prog s 74 (.ptr b 0) = some (refA (Int.ofNat e.z) e.g) := by
  simp only [loadA, gE, zR, readA, hs]
  rfl
theorem had_del {l : List (Int × Nat)} {e : Ent} {left rest : List Ent} {q : Nat} (h : HadC l (left ++ e :: rest)) (hz : ((left ++ e :: rest).map Ent.z).Nodup) (hq : l[q]? = some (Int.ofNat e.z, e.g)) : HadC (l.eraseIdx q) (left ++ rest) := by
  obtain ⟨hn, hm⟩ := h
  have hlt : q < l.length := (List.getElem?_eq_some_iff.1 hq).1
  have hqe : l[q] = (Int.ofNat e.z, e.g) := (List.getElem?_eq_some_iff.1 hq).2
  have sp : l = l.take q ++ l[q] :: l.drop (q + 1) := by rw [← List.drop_eq_getElem_cons hlt, List.take_append_drop]
  have er : l.eraseIdx q = l.take q ++ l.drop (q + 1) := List.eraseIdx_eq_take_drop_succ l q
  rw [er]
  rw [sp, hqe] at hn hm
  have hp : (l.take q ++ (Int.ofNat e.z, e.g) :: l.drop (q + 1)).Perm ((Int.ofNat e.z, e.g) :: (l.take q ++ l.drop (q + 1))) := List.perm_middle
  have hn2 := hp.nodup_iff.1 hn
  refine ⟨(List.nodup_cons.1 hn2).2, fun a => ⟨fun ha => ?_, fun ha => ?_⟩⟩
  · have hne : a ≠ (Int.ofNat e.z, e.g) := fun h => (List.nodup_cons.1 hn2).1 (h ▸ ha)
    have := (hm a).1 (hp.mem_iff.2 (List.mem_cons_of_mem _ ha))
    rw [List.map_append, List.map_cons, List.mem_append, List.mem_cons] at this
    rw [List.map_append, List.mem_append]
    rcases this with h | h | h
    · exact .inl h
    · exact absurd h hne
    · exact .inr h
  · have h1 : a ∈ (left ++ e :: rest).map fun e => (Int.ofNat e.z, e.g) := by
      rw [List.map_append, List.mem_append] at ha
      rw [List.map_append, List.map_cons, List.mem_append, List.mem_cons]
      exact ha.imp id .inr
    rcases List.mem_cons.1 (hp.mem_iff.1 ((hm a).2 h1)) with h | h
    · exfalso
      obtain ⟨x, hx, hxe⟩ := List.mem_map.1 ha
      rw [h] at hxe
      simp only [Prod.mk.injEq] at hxe
      have hxz : x.z = e.z := Int.ofNat.inj hxe.1
      have hz2 : ((left ++ e :: rest).map Ent.z).Perm (e.z :: (left ++ rest).map Ent.z) := (List.perm_middle (a := e) (l₁ := left) (l₂ := rest)).map Ent.z
      have := (List.nodup_cons.1 (hz2.nodup_iff.1 hz)).1
      exact this (List.mem_map.2 ⟨x, hx, hxz⟩)
    · exact h
end Go.Proofs.YtofbdgmknfbkfaaGreatDoor.nodesLife
namespace Go.Proofs.YtofbdgmknfbkfaaGreatDoor.nodesLife
open Go Go.Mini
/-- What lies beside it. -/
def XOk (X : List (Nat × AObj)) : Prop := ∀ x ∈ X, x.1 < 24 ∧ x.2.names (fun c => Nat.blt c 24 && (!Nat.beq c 20 && !Nat.beq c 21)) = true ∧ x.1 ∉ [7, 8, 11, 12, 13, 20, 21, 23]
theorem oB_mem {b : Nat} {l : List Ent} {x : Nat × AObj} (h : x ∈ oB b l) : x.1 = b ∧ x.2.names (fun _ => false) = true := by
  cases l with
  | nil => cases h
  | cons e l =>
    have h : x = (b, .cells false (entsC (e :: l))) := by simpa [oB] using h
    rw [h]
    exact ⟨rfl, entsC_names _ _⟩
theorem base_mem {L : List Ent} {vs : List Bool} {M : PM} {x : Nat × AObj} (h : x ∈ base L vs M) : (x.1 = 7 ∨ x.1 = 8 ∨ x.1 = 11 ∨ x.1 = 12 ∨ x.1 = 23) ∧ x.2.names (fun c => !Nat.beq c 20 && !Nat.beq c 21) = true := by
  simp only [base, memP, List.mem_append, List.mem_cons, List.not_mem_nil, or_false] at h
  rcases h with (rfl | rfl) | rfl | rfl | rfl
  · exact ⟨.inl rfl, rfl⟩
  · exact ⟨.inr (.inl rfl), mapO_names _ _⟩
  · exact ⟨.inr (.inr (.inl rfl)), rfl⟩
  · exact ⟨.inr (.inr (.inr (.inl rfl))), entsC_names _ _⟩
  · exact ⟨.inr (.inr (.inr (.inr rfl))), bools_names _ _⟩
section
variable {L : List Ent} {vs : List Bool} {M : PM} {X : List (Nat × AObj)} {l : List (Int × Nat)} {ix : List Nat} {nn : Nat} {out left : List Ent}
theorem sw_all (hX : XOk X) {x : Nat × AObj} (hx : x ∈ (base L vs M ++ [(13, hadO l ix nn)]) ++ (oB 21 left ++ X)) : x.1 ≠ 20 ∧ x.2.names (fun c => !Nat.beq c 20) = true := by
  have w : ∀ {o : AObj} {p : Nat → Bool}, (∀ c, p c = true → (!Nat.beq c 20) = true) → o.names p = true → o.names (fun c => !Nat.beq c 20) = true := fun h h2 => onames_sub h h2
  rcases List.mem_append.1 hx with hx | hx
  · rcases List.mem_append.1 hx with hx | hx
    · obtain ⟨h1, h2⟩ := base_mem hx
      exact ⟨by omega, w (fun c hc => by rw [Bool.and_eq_true] at hc; exact hc.1) h2⟩
    · have : x = (13, hadO l ix nn) := by simpa using hx
      rw [this]
      exact ⟨show 13 ≠ 20 by decide, hadO_names _ _ _ _⟩
  · rcases List.mem_append.1 hx with hx | hx
    · obtain ⟨h1, h2⟩ := oB_mem hx
      exact ⟨by omega, w (fun c hc => by cases hc) h2⟩
    · obtain ⟨_, h2, h3⟩ := hX x hx
      refine ⟨fun e => h3 (by rw [e]; decide), w (fun c hc => ?_) h2⟩
      simp only [Bool.and_eq_true] at hc
      exact hc.2.1
theorem sw_all2 (hX : XOk X) {x : Nat × AObj} (hx : x ∈ ((base L vs M ++ [(13, hadO l ix nn)]) ++ oB 20 out) ++ X) : x.1 ≠ 21 ∧ x.2.names (fun c => !Nat.beq c 21) = true := by
  have w : ∀ {o : AObj} {p : Nat → Bool}, (∀ c, p c = true → (!Nat.beq c 21) = true) → o.names p = true → o.names (fun c => !Nat.beq c 21) = true := fun h h2 => onames_sub h h2
  rcases List.mem_append.1 hx with hx | hx
  · rcases List.mem_append.1 hx with hx | hx
    · rcases List.mem_append.1 hx with hx | hx
      · obtain ⟨h1, h2⟩ := base_mem hx
        exact ⟨by omega, w (fun c hc => by rw [Bool.and_eq_true] at hc; exact hc.2) h2⟩
      · have : x = (13, hadO l ix nn) := by simpa using hx
        rw [this]
        exact ⟨show 13 ≠ 21 by decide, hadO_names _ _ _ _⟩
    · obtain ⟨h1, h2⟩ := oB_mem hx
      exact ⟨by omega, w (fun c hc => by cases hc) h2⟩
  · obtain ⟨_, h2, h3⟩ := hX x hx
    refine ⟨fun e => h3 (by rw [e]; decide), w (fun c hc => ?_) h2⟩
    simp only [Bool.and_eq_true] at hc
    exact hc.2.2
theorem swB_20 : swB L vs M (hadO l ix nn) out left X = (base L vs M ++ [(13, hadO l ix nn)]) ++ (oB 20 out ++ (oB 21 left ++ X)) := by
  unfold swB
  rw [List.append_assoc]
  rfl
theorem swB_21 : swB L vs M (hadO l ix nn) out left X = ((base L vs M ++ [(13, hadO l ix nn)]) ++ oB 20 out) ++ (oB 21 left ++ X) := by
  rw [swB_20, List.append_assoc, List.append_assoc, List.append_assoc]
theorem out_row {s : AS} {π : Nat → Nat} {lb : Nat} {e : Ent} (hX : XOk X) (A : At Tryz.prog (swB L vs M (hadO l ix nn) out left X) GF s π) (hl : out.length < 1000) (hlb : s.get lb = some (.cells false (entC e))) :
    ∃ s2 π2, appendA Tryz.prog s 138 138 (oV (π 20) out) (.slice lb 0 1 1) = some (oV (π2 20) (out ++ [e]), s2) ∧ At Tryz.prog (swB L vs M (hadO l ix nn) (out ++ [e]) left X) GF s2 π2 ∧ Moved 24 (swB L vs M (hadO l ix nn) out left X) (swB L vs M (hadO l ix nn) (out ++ [e]) left X) π π2 (kB 20) s s2 := by
  rw [swB_20] at A ⊢
  rw [swB_20]
  refine app_row A (fun hm => ?_) (by decide) (fun x hx => (sw_all hX hx).2) hl hlb
  obtain ⟨x, hx, e⟩ := List.mem_map.1 hm
  exact (sw_all hX hx).1 e
theorem left_row {s : AS} {π : Nat → Nat} {lb : Nat} {e : Ent} (hX : XOk X) (A : At Tryz.prog (swB L vs M (hadO l ix nn) out left X) GF s π) (hl : left.length < 1000) (hlb : s.get lb = some (.cells false (entC e))) :
    ∃ s2 π2, appendA Tryz.prog s 138 138 (oV (π 21) left) (.slice lb 0 1 1) = some (oV (π2 21) (left ++ [e]), s2) ∧ At Tryz.prog (swB L vs M (hadO l ix nn) out (left ++ [e]) X) GF s2 π2 ∧ Moved 24 (swB L vs M (hadO l ix nn) out left X) (swB L vs M (hadO l ix nn) out (left ++ [e]) X) π π2 (kB 21) s s2 := by
  rw [swB_21] at A ⊢
  rw [swB_21]
  refine app_row A (fun hm => ?_) (by decide) (fun x hx => (sw_all2 hX hx).2) hl hlb
  obtain ⟨x, hx, e⟩ := List.mem_map.1 hm
  exact (sw_all2 hX hx).1 e
/-- One round: the entry is read, and put aside. -/
theorem round0 {s : AS} {π : Nat → Nat} {e : Ent} (A : At Tryz.prog (swB L vs M (hadO l ix nn) out left X) GF s π) : ∃ sb, storeA Tryz.prog (s.push Z6) 197 (.ptr s.nx 0) (.agg (ent6 (Int.ofNat e.z) e.g e.b e.e e.r)) = some sb ∧ sb.nx = s.nx + 1 ∧ sb.get s.nx = some (.cells false (entC e)) ∧ (∀ c, c < s.nx → sb.get c = s.get c) ∧
    At Tryz.prog (swB L vs M (hadO l ix nn) out left X) GF sb π ∧ Moved 24 (swB L vs M (hadO l ix nn) out left X) (swB L vs M (hadO l ix nn) out left X) π π (fun c => c) s sb := by
  have g1 : (s.push Z6).get s.nx = some Z6 := by rw [get_push, if_pos rfl]
  obtain ⟨sb, e1, e2, e3⟩ := st_all (P := Tryz.prog) (t := 197) (cs := [i64 0, u32 0, .bool false, u64 0, u64 0, u64 0]) (vs := ent6 (Int.ofNat e.z) e.g e.b e.e e.r) zE rfl rfl g1
  have gg : ∀ c, sb.get c = if c = s.nx then ((s.push Z6).get s.nx).map fun _ => AObj.cells false (ent6 (Int.ofNat e.z) e.g e.b e.e e.r) else (s.push Z6).get c := fun c => by
    show getB _ _ = _
    rw [e2]
    exact getB_setB _ _ c _
  have low : ∀ c, c < s.nx → sb.get c = s.get c := fun c hc => by rw [gg, if_neg (by omega), get_push, if_neg (by omega)]
  obtain ⟨A2, M2⟩ := At.low (nx0 := 24) A low (by rw [e2, e3, set_keys]; exact push_keys A.keys) (by rw [e3]; exact Nat.le_succ _)
  exact ⟨sb, e1, e3, by rw [gg, if_pos rfl, g1]; rfl, low, A2, M2⟩
end
end Go.Proofs.YtofbdgmknfbkfaaGreatDoor.nodesLife
namespace Go.Proofs.YtofbdgmknfbkfaaGreatDoor.nodesLife
open Go Go.Mini
/-! ### List.Sweep's loop: by induction -/
def selV (vs : List Bool) (i : Nat) : Bool := vs.getD i false
section
variable {L : List Ent} {vs : List Bool} {M : PM} {X : List (Nat × AObj)}
theorem ls_all (hX : XOk X) (hl : L.length < 1000) (hv : vs.length = L.length) : ∀ (d i : Nat) (out left : List Ent) (l : List (Int × Nat)) (ix : List Nat) (nn : Nat) (s : AS) (π : Nat → Nat) (j : Nat → AV), L.length - i = d → i ≤ L.length → HadC l (left ++ L.drop i) → ((left ++ L.drop i).map Ent.z).Nodup → out.length ≤ i → left.length ≤ i → At Tryz.prog (swB L vs M (hadO l ix nn) out left X) GF s π →
    ∃ l' ix' s' π' j', HadC l' (left ++ pick (fun k => !selV vs k) i (L.drop i)) ∧ Sound Tryz.prog (.code (.loop cL2) (TW (π 11) (π 12) (π 23) L.length i (oV (π 20) out) (oV (π 21) left) j) s) ⟨.exit 0, TW (π 11) (π 12) (π 23) L.length L.length (oV (π' 20) (out ++ pick (selV vs) i (L.drop i))) (oV (π' 21) (left ++ pick (fun k => !selV vs k) i (L.drop i))) j', s'⟩ ∧
      At Tryz.prog (swB L vs M (hadO l' ix' nn) (out ++ pick (selV vs) i (L.drop i)) (left ++ pick (fun k => !selV vs k) i (L.drop i)) X) GF s' π' ∧ Moved 24 (swB L vs M (hadO l ix nn) out left X) (swB L vs M (hadO l' ix' nn) (out ++ pick (selV vs) i (L.drop i)) (left ++ pick (fun k => !selV vs k) i (L.drop i)) X) π π' kW s s' := by
  intro d
  induction d with
  | zero =>
    intro i out left l ix nn s π j hd hi hH hz ho hlf A
    obtain rfl : i = L.length := by omega
    obtain ⟨j', hs⟩ := run_T (ls_e s (π 11) (π 12) (π 23) L.length L.length (oV (π 20) out) (oV (π 21) left) j) ⟨by rw [Qst.ok, show decide (Int.ofNat L.length < Int.ofNat L.length) = false from decide_eq_false (by omega)], trivial⟩
    rw [List.drop_length] at hH ⊢
    simp only [pick, List.append_nil] at hH ⊢
    exact ⟨l, ix, s, π, j', hH, loop_stop hs (by simp), A, (Moved.refl' _ _ _ _).weak fun _ _ => rfl⟩
  | succ d ih =>
    intro i out left l ix nn s π j hd hi hH hz ho hlf A
    have hlt : i < L.length := by omega
    have dr : L.drop i = L[i] :: L.drop (i + 1) := List.drop_eq_getElem_cons hlt
    generalize he : L[i] = e at dr
    rw [dr] at hH hz ⊢
    obtain ⟨sb, b1, b2, b3, b4, A1, M1⟩ := round0 (e := e) A
    have raw : ∀ {b : Nat} {cs : List AV} {s : AS} {bs : List (Nat × AObj)}, At Tryz.prog bs GF s π → (b, AObj.cells false cs) ∈ bs → namess (fun _ => false) cs = true → s.get (π b) = some (.cells false cs) := fun A h hn => by
      have := at_g A h
      rwa [raw_ren (show (AObj.cells false _).names (fun _ => false) = true from hn)] at this
    have g12 := raw (b := 12) A (by simp [swB, base]) (entsC_names _ L)
    have g23 := raw (b := 23) A1 (by simp [swB, base]) (bools_names _ vs)
    have g11 := at_g A1 (b := 11) (o := liV (.osl 12 0 L.length 6) (.map 13)) (by simp [swB, base])
    have g13 := at_g A1 (b := 13) (o := hadO l ix nn) (by simp [swB, base])
    rw [raw_ren (hadO_names _ _ _ _)] at g13
    have ldI := ldE hlt g12
    rw [he] at ldI
    have q1 : (Qst.val (some (.bool (decide (Int.ofNat i < Int.ofNat L.length)))) (.bool true)).ok Tryz.prog := by rw [Qst.ok, show decide (Int.ofNat i < Int.ofNat L.length) = true from decide_eq_true (by simp only [Int.ofNat_eq_natCast]; omega)]
    have q9 : (Qst.val (some (.int .i64 (IntKind.i64.wrap (Int.ofNat (i + 1))))) (i64 (Int.ofNat (i + 1)))).ok Tryz.prog := by
      rw [Qst.ok, i64_wrap (by simp only [Int.ofNat_eq_natCast]; omega) (by simp only [Int.ofNat_eq_natCast]; omega)]
      rfl
    have hvi : vs[i]? = some (selV vs i) := by
      unfold selV
      rw [List.getD_eq_getElem?_getD, List.getElem?_eq_getElem (by omega)]
      rfl
    have ldB : loadA Tryz.prog sb 4 (.ptr (π 23) i) = some (.bool (selV vs i)) := ld_cell aB g23 (by unfold bools; rw [List.getElem?_map, hvi]; rfl)
    cases hsel : selV vs i with
    | true =>
      rw [hsel] at ldB
      obtain ⟨q, hq, hdl⟩ := del_had (l := l) (ix := ix) (n := nn) (a := (Int.ofNat e.z, e.g)) ((hH.2 _).2 (by rw [List.map_append, List.map_cons]; simp)) g13
      obtain ⟨s1, hs1⟩ : ∃ s1, s1 = sb.set (π 13) (hadO (l.eraseIdx q) (ix.eraseIdx q) nn) := ⟨_, rfl⟩
      rw [← hs1] at hdl
      obtain ⟨A2, M2⟩ := At.put (nx0 := 24) (b := 13) (o' := hadO (l.eraseIdx q) (ix.eraseIdx q) nn) (s2 := s1) A1 (fun hm => by
        rw [List.map_append, List.mem_append] at hm
        rcases hm with hm | hm
        · simp [base, memP] at hm
        · obtain ⟨x, hx, e'⟩ := List.mem_map.1 hm
          rcases List.mem_append.1 hx with hx | hx
          · have := (oB_mem hx).1
            omega
          · rcases List.mem_append.1 hx with hx | hx
            · have := (oB_mem hx).1
              omega
            · have := (hX x hx).2.2
              rw [e'] at this
              simp at this) (by rw [hs1, raw_ren (hadO_names _ _ _ _)]; rfl) (by rw [hs1]; rfl)
      have n13 : π 13 ≠ s.nx := fun e' => by
        have := A.lt (b := 13) (List.mem_map.2 ⟨(13, hadO l ix nn), by simp [swB], rfl⟩)
        omega
      have b3' : s1.get s.nx = some (.cells false (entC e)) := by
        rw [hs1]
        show getB _ _ = _
        rw [show (sb.set (π 13) (hadO (l.eraseIdx q) (ix.eraseIdx q) nn)).h.bs = setB sb.h.bs (π 13) (hadO (l.eraseIdx q) (ix.eraseIdx q) nn) from rfl, getB_setB, if_neg (Ne.symm n13)]
        exact b3
      have hH2 := had_del hH hz hq
      have hz2 : ((left ++ L.drop (i + 1)).map Ent.z).Nodup := by
        refine hz.sublist ?_
        rw [List.map_append, List.map_append, List.map_cons]
        exact (List.Sublist.refl _).append (List.sublist_cons_self _ _)
      obtain ⟨A3, M3⟩ := At.pushG (nx0 := 24) A2 (E6 (Int.ofNat e.z) e.g e.b e.e e.r)
      obtain ⟨s3, π3, h3, A4, M4⟩ := out_row (e := e) hX A3 (by omega) (lb := s1.nx) (by rw [get_push, if_pos rfl]; rfl)
      have ldM : loadA Tryz.prog sb 191 (.ptr (π 11) 1) = some (.map (π 13)) := ld_cell aMp g11 rfl
      obtain ⟨j', hs⟩ := run_T (ls_t s sb s1 s3 (π 11) (π 12) (π 23) L.length i (i * 6) (Int.ofNat e.z) e.g e.b e.e e.r (oV (π 20) out) (oV (π 21) left) (.map (π 13)) (oV (π3 20) (out ++ [e])) j) ⟨q1, idxO _ _ _ hlt, ldI, rfl, ⟨b1, rfl⟩, q1, idxB _ _ _ hlt, ldB, ldM, ldR0 b3, ⟨hdl, rfl⟩, ldR0 b3, ldM, ldE0 b3', rfl, h3, q9, trivial⟩
      have M5 : Moved 24 (swB L vs M (hadO l ix nn) out left X) (swB L vs M (hadO (l.eraseIdx q) (ix.eraseIdx q) nn) (out ++ [e]) left X) π π3 kW s s3 := (idn (idn M1 M2) M3).comp M4 fun c _ hc => ⟨rfl, kW_B (.inl rfl) c hc⟩
      have p : ∀ c, c < 24 → c ≠ 20 → c ≠ 21 → π3 c = π c := fun c hc h0 h1 => M5.low c hc (if_neg (by omega))
      have p21 : π3 21 = π 21 := M4.low 21 (by decide) (by decide)
      obtain ⟨l', ix', s', π', j2, k1, k2, k3, k4⟩ := ih (i + 1) (out ++ [e]) left (l.eraseIdx q) (ix.eraseIdx q) nn s3 π3 j' (by omega) hlt hH2 hz2 (by simp; omega) (by omega) A4
      have e1 : pick (selV vs) i (e :: L.drop (i + 1)) = e :: pick (selV vs) (i + 1) (L.drop (i + 1)) := by simp only [pick, hsel, if_true]
      have e2 : pick (fun k => !selV vs k) i (e :: L.drop (i + 1)) = pick (fun k => !selV vs k) (i + 1) (L.drop (i + 1)) := by simp only [pick, hsel, Bool.not_true, Bool.false_eq_true, if_false]
      rw [List.append_assoc, List.singleton_append, ← e1, ← e2] at k2 k3 k4
      rw [← e2] at k1
      rw [p 11 (by decide) (by decide) (by decide), p 12 (by decide) (by decide) (by decide), p 23 (by decide) (by decide) (by decide), p21] at k2
      exact ⟨l', ix', s', π', j2, k1, loop_next hs k2, k3, M5.comp k4 fun c _ hc => ⟨hc, hc⟩⟩
    | false =>
      rw [hsel] at ldB
      obtain ⟨A3, M3⟩ := At.pushG (nx0 := 24) A1 (E6 (Int.ofNat e.z) e.g e.b e.e e.r)
      obtain ⟨s3, π3, h3, A4, M4⟩ := left_row (e := e) hX A3 (by omega) (lb := sb.nx) (by rw [get_push, if_pos rfl]; rfl)
      obtain ⟨j', hs⟩ := run_T (ls_f s sb s3 (π 11) (π 12) (π 23) L.length i (i * 6) (Int.ofNat e.z) e.g e.b e.e e.r (oV (π 20) out) (oV (π 21) left) (oV (π3 21) (left ++ [e])) j) ⟨q1, idxO _ _ _ hlt, ldI, rfl, ⟨b1, rfl⟩, q1, idxB _ _ _ hlt, ldB, ldE0 b3, rfl, h3, q9, trivial⟩
      have M5 : Moved 24 (swB L vs M (hadO l ix nn) out left X) (swB L vs M (hadO l ix nn) out (left ++ [e]) X) π π3 kW s s3 := (idn M1 M3).comp M4 fun c _ hc => ⟨rfl, kW_B (.inr rfl) c hc⟩
      have p : ∀ c, c < 24 → c ≠ 20 → c ≠ 21 → π3 c = π c := fun c hc h0 h1 => M5.low c hc (if_neg (by omega))
      have p20 : π3 20 = π 20 := M4.low 20 (by decide) (by decide)
      have ea : left ++ e :: L.drop (i + 1) = (left ++ [e]) ++ L.drop (i + 1) := by rw [List.append_assoc]; rfl
      rw [ea] at hH hz
      obtain ⟨l', ix', s', π', j2, k1, k2, k3, k4⟩ := ih (i + 1) out (left ++ [e]) l ix nn s3 π3 j' (by omega) hlt hH hz (by omega) (by simp; omega) A4
      have e1 : pick (selV vs) i (e :: L.drop (i + 1)) = pick (selV vs) (i + 1) (L.drop (i + 1)) := by simp only [pick, hsel, Bool.false_eq_true, if_false]
      have e2 : pick (fun k => !selV vs k) i (e :: L.drop (i + 1)) = e :: pick (fun k => !selV vs k) (i + 1) (L.drop (i + 1)) := by simp only [pick, hsel, Bool.not_false, if_true]
      rw [List.append_assoc, List.singleton_append, ← e1, ← e2] at k2 k3 k4
      rw [List.append_assoc, List.singleton_append, ← e2] at k1
      rw [p 11 (by decide) (by decide) (by decide), p 12 (by decide) (by decide) (by decide), p 23 (by decide) (by decide) (by decide), p20] at k2
      exact ⟨l', ix', s', π', j2, k1, loop_next hs k2, k3, M5.comp k4 fun c _ hc => ⟨hc, hc⟩⟩
end
end Go.Proofs.YtofbdgmknfbkfaaGreatDoor.nodesLife
namespace Go.Proofs.YtofbdgmknfbkfaaGreatDoor.nodesLife
open Go Go.Mini
/-! ### List.Sweep, run around its loop; Clip -/
def jL0 (p : Nat) (k : Nat) : AV := if k = 4 then .nilSlice else if k = 9 ∨ k = 11 ∨ k = 12 ∨ k = 13 then .ptr p 0 else if k = 10 then .bool false else undefA
theorem lsw_run (s s3 s4 : AS) (p11 p12 gb n : Nat) (ov lv cv : AV) (jL : Nat → AV) : (runX Tryz.prog none_ 90 128 (.code (cOf 128) ([.ptr p11 0, .slice gb 0 n n] ++ List.replicate 50 undefA) s) [.val 128 4 3 (.osl p12 0 n 6), .loop 128 (fun _ _ => ⟨.exit 0, TW p11 p12 gb n n ov lv jL, s3⟩), .eff 128 12 4 undefA (fun _ => s4), .call 128 13 1 cv (fun _ => s4)]).map (fun x => (x.1.e, x.1.s, tget x.1.ts 4, x.2.2)) =
  some (.ret, s4, cv, [.ld 138 s (.ptr p11 0) (.osl p12 0 n 6), .snd (.code (.loop cL2) (TW p11 p12 gb n 0 .nilSlice .nilSlice (jL0 p11)) s) ⟨.exit 0, TW p11 p12 gb n n ov lv jL, s3⟩, .sto s3 138 (.ptr p11 0) lv undefA s4, .snd (.call 132 [ov] s4) ⟨.ret, [cv], s4⟩]) := by kernel_rfl
theorem clip_n (s : AS) : (runX Tryz.prog none_ 60 132 (.call 132 [.nilSlice] s) []).map (fun x => (x.1.e, x.1.ts, x.1.s, x.2.2)) = some (.ret, [.nilSlice], leave s (ent s) .nilSlice, []) := by kernel_rfl
theorem clip_o (s : AS) (b n : Nat) : (runX Tryz.prog none_ 60 132 (.call 132 [.osl b 0 n 6] s) [.val 132 1 5 (.slice b 0 n n)]).map (fun x => (x.1.e, x.1.ts, x.1.s, x.2.2)) = some (.ret, [.slice b 0 n n], leave s (ent s) (.slice b 0 n n), [.sli 138 (.osl b 0 n 6) none (some (i64 (Int.ofNat n))) (some (i64 (Int.ofNat n))) (.slice b 0 n n)]) := by kernel_rfl
end Go.Proofs.YtofbdgmknfbkfaaGreatDoor.nodesLife
namespace Go.Mini
theorem At.ren2 {P : Program} {bs bs' : List (Nat × AObj)} {Fz : List (Nat × List AV)} {s : AS} {π π' : Nat → Nat} (A : At P bs Fz s π) (hg : ∀ g, g < P.globals.size → π' g = π g) (hz : ∀ x ∈ Fz, π' x.1 = π x.1) (h : ∀ x ∈ bs', ∃ y ∈ bs, π' x.1 = π y.1 ∧ x.2.ren π' = y.2.ren π) (inj : ∀ x ∈ bs', ∀ y ∈ bs', π' x.1 = π' y.1 → x.1 = y.1) : At P bs' Fz s π' := by
  refine ⟨fun g hg' => by rw [hg g hg']; exact A.glob g hg', fun x hx => by rw [hz x hx]; exact A.fz x hx, fun b hb x hx => ?_, fun b hb c hc e => ?_, eachX_all fun x hx => ?_, A.keys⟩
  · obtain ⟨y, hy, rfl⟩ := List.mem_map.1 hb
    obtain ⟨w, hw, e1, _⟩ := h y hy
    rw [e1, hz x hx]
    exact A.out _ (List.mem_map.2 ⟨w, hw, rfl⟩) x hx
  · obtain ⟨y, hy, rfl⟩ := List.mem_map.1 hb
    obtain ⟨w, hw, rfl⟩ := List.mem_map.1 hc
    exact inj y hy w hw e
  · obtain ⟨y, hy, e1, e2⟩ := h x hx
    rw [e1, e2]
    exact eachX_mem A.at_ y hy
end Go.Mini
namespace Go.Proofs.YtofbdgmknfbkfaaGreatDoor.nodesLife
open Go Go.Mini
/-! ### Clip, of what grew -/
def cV (p : Nat) (l : List Ent) : AV := match l with
  | [] => .nilSlice
  | _ :: _ => .slice p 0 l.length l.length
theorem clip_at {s : AS} {p : Nat} {l : List Ent} (h : l ≠ [] → p < s.nx) : Sound Tryz.prog (.call 132 [oV p l] s) ⟨.ret, [cV p l], s⟩ := by
  cases l with
  | nil => exact rd_of (clip_n s) rfl trivial
  | cons e l =>
    have hp := h (by simp)
    refine rd_of (clip_o s p (e :: l).length) ?_ ⟨sli3 uE zE, trivial⟩
    show Nat.ble (s.nx - 1 + 1) p = false
    cases hb : Nat.ble (s.nx - 1 + 1) p with
    | false => rfl
    | true =>
      have := Nat.le_of_ble_eq_true hb
      omega
theorem oV_cells {p : Nat} {l : List Ent} : (oV p l).cells = [oV p l] ∧ AV.one (oV p l) = true := by cases l <;> exact ⟨rfl, rfl⟩
theorem oV_ren {π : Nat → Nat} {p : Nat} {l : List Ent} : (oV p l).ren π = oV (π p) l := by cases l <;> rfl
theorem zL : sizeA Tryz.prog 138 = some 1 := by kernel_rfl
theorem aL : isAggA Tryz.prog 138 = some false := by kernel_rfl
end Go.Proofs.YtofbdgmknfbkfaaGreatDoor.nodesLife
namespace Go.Proofs.YtofbdgmknfbkfaaGreatDoor.nodesLife
open Go Go.Mini
/-! ### List.Sweep, wherever it lies -/
def kS (c : Nat) : Nat := if c = 12 ∨ c = 20 ∨ c = 21 then c + 1 else c
theorem lsw_call {s s' : AS} {a : Nat} {w v : AV} {e : AExit} {ts' : List AV} (hj : tget ts' 4 = v) (h : Sound Tryz.prog (.code (cOf 128) ([.ptr a 0, w] ++ List.replicate 50 undefA) (ent s)) ⟨e, ts', s'⟩) (he : e = .normal ∨ e = .ret) : ∃ s2 : AS, s2.h.bs = s'.h.bs ∧ s2.nx = s'.nx ∧ Sound Tryz.prog (.call 128 [.ptr a 0, w] s) ⟨.ret, [v], s2⟩ := by
  have := keepC2 (s := s) (f := 128) (fn := Tryz.f128) (c := cOf 128) (args := [.ptr a 0, w]) (vs := [v]) Tryz.func128 (by kernel_rfl) (by rw [show Tryz.f128.ntmps = 52 from by kernel_rfl]; exact h) he (by rw [show Tryz.f128.results.toList = [.tmp 4] from by kernel_rfl]; exact res4 hj)
  exact ⟨⟨⟨s'.h.bs, s'.h.len, none, olds s.nx s'.h.wr s.h.wr⟩, s'.nx⟩, rfl, rfl, this⟩
def liB (left : List Ent) (O : AObj) : List (Nat × AObj) := match left with
  | [] => [(11, liV .nilSlice (.map 13)), (13, O)]
  | _ :: _ => [(11, liV (.osl 12 0 left.length 6) (.map 13)), (12, .cells false (entsC left)), (13, O)]
theorem liB_at {left : List Ent} {O : AObj} (h : HadAt O left) : LiAt left (liB left O) := by
  cases left with
  | nil => exact .inr (.inl ⟨rfl, O, h, rfl⟩)
  | cons e l => exact .inr (.inr ⟨by simp, O, h, rfl⟩)
def m12 (c : Nat) : Nat := if c = 12 then 21 else c
section
variable {L : List Ent} {vs : List Bool} {M : PM} {X : List (Nat × AObj)}
def swE (L : List Ent) (vs : List Bool) (M : PM) (O : AObj) (out left : List Ent) (X : List (Nat × AObj)) : List (Nat × AObj) := memP M ++ (11, liV (oV 21 left) (.map 13)) :: ([(12, .cells false (entsC L)), (23, .cells false (bools vs))] ++ (13, O) :: (oB 20 out ++ (oB 21 left ++ X)))
theorem swE_of {O : AObj} {out left : List Ent} : swB L vs M O out left X = memP M ++ (11, liV (.osl 12 0 L.length 6) (.map 13)) :: ([(12, .cells false (entsC L)), (23, .cells false (bools vs))] ++ (13, O) :: (oB 20 out ++ (oB 21 left ++ X))) := by
  unfold swB base
  rw [List.append_assoc]
  rfl
theorem liB_mem {left : List Ent} {O : AObj} {x : Nat × AObj} (h : x ∈ liB left O) : x = (11, liV (oV 12 left) (.map 13)) ∨ (x = (12, .cells false (entsC left)) ∧ left ≠ []) ∨ x = (13, O) := by
  cases left with
  | nil =>
    simp only [liB, List.mem_cons, List.not_mem_nil, or_false] at h
    rcases h with rfl | rfl
    · exact .inl rfl
    · exact .inr (.inr rfl)
  | cons e l =>
    simp only [liB, List.mem_cons, List.not_mem_nil, or_false] at h
    rcases h with rfl | rfl | rfl
    · exact .inl rfl
    · exact .inr (.inl ⟨rfl, by simp⟩)
    · exact .inr (.inr rfl)
/-- The names change places. -/
theorem swE_ren {O : AObj} {out left : List Ent} {s : AS} {π : Nat → Nat} (hX : XOk X) (hX12 : ∀ x ∈ X, x.2.names (fun c => !Nat.beq c 12) = true) (hO : O.names (fun _ => false) = true) (A : At Tryz.prog (swE L vs M O out left X) GF s π) :
    At Tryz.prog (memP M ++ (liB left O ++ (oB 20 out ++ X))) GF s (fun c => π (m12 c)) ∧ ∀ b ∈ (memP M ++ (liB left O ++ (oB 20 out ++ X))).map (·.1), m12 b ∈ (swE L vs M O out left X).map (·.1) := by
  have low : ∀ c, c ≠ 12 → m12 c = c := fun c h => if_neg h
  have key : ∀ x ∈ memP M ++ (liB left O ++ (oB 20 out ++ X)), x.1 ≠ 21 ∧ ∃ y ∈ swE L vs M O out left X, m12 x.1 = y.1 ∧ x.2.ren (fun c => π (m12 c)) = y.2.ren π := fun x hx => by
    have same : ∀ {x : Nat × AObj}, x ∈ swE L vs M O out left X → x.1 ≠ 12 → x.2.names (fun c => !Nat.beq c 12) = true → ∃ y ∈ swE L vs M O out left X, m12 x.1 = y.1 ∧ x.2.ren (fun c => π (m12 c)) = y.2.ren π := fun {x} h h1 h2 => ⟨x, h, low _ h1, oren_congr (p := fun c => !Nat.beq c 12) (fun c hc => by rw [low c (fun e => by rw [e] at hc; cases hc)]) h2⟩
    rcases List.mem_append.1 hx with h | h
    · simp only [memP, List.mem_cons, List.not_mem_nil, or_false] at h
      rcases h with rfl | rfl
      · exact ⟨show 7 ≠ 21 by decide, same (by simp [swE, memP]) (show 7 ≠ 12 by decide) rfl⟩
      · exact ⟨show 8 ≠ 21 by decide, same (by simp [swE, memP]) (show 8 ≠ 12 by decide) (mapO_names _ _)⟩
    · rcases List.mem_append.1 h with h | h
      · rcases liB_mem h with rfl | ⟨rfl, hne⟩ | rfl
        · refine ⟨show 11 ≠ 21 by decide, (11, liV (oV 21 left) (.map 13)), by simp [swE], rfl, ?_⟩
          show AObj.cells false [(oV 12 left).ren _, _] = AObj.cells false [(oV 21 left).ren π, _]
          rw [oV_ren, oV_ren]
          rfl
        · refine ⟨show 12 ≠ 21 by decide, (21, .cells false (entsC left)), ?_, rfl, ?_⟩
          · cases left with
            | nil => exact absurd rfl hne
            | cons e l => simp [swE, oB]
          · rw [raw_ren (show (AObj.cells false (entsC left)).names (fun _ => false) = true from entsC_names _ _), raw_ren (show (AObj.cells false (entsC left)).names (fun _ => false) = true from entsC_names _ _)]
        · exact ⟨show 13 ≠ 21 by decide, same (by simp [swE]) (show 13 ≠ 12 by decide) (raw_any hO _)⟩
      · rcases List.mem_append.1 h with h | h
        · obtain ⟨h1, h2⟩ := oB_mem h
          exact ⟨by omega, same (by simp [swE, h]) (by omega) (raw_any h2 _)⟩
        · have h3 := (hX x h).2.2
          exact ⟨fun e => h3 (by rw [e]; decide), same (by simp [swE, h]) (fun e => h3 (by rw [e]; decide)) (hX12 x h)⟩
  refine ⟨At.ren2 A (fun g hg => ?_) (fun x hx => ?_) (fun x hx => ?_) (fun x hx y hy e => ?_), fun b hb => ?_⟩
  · rw [glN] at hg
    show π (m12 g) = π g
    rw [low g (by omega)]
  · have := (gz x hx).1
    show π (m12 x.1) = π x.1
    rw [low _ (by omega)]
  · obtain ⟨_, y, hy, e1, e2⟩ := key x hx
    exact ⟨y, hy, by rw [← e1], e2⟩
  · obtain ⟨n1, y1, hy1, e1, _⟩ := key x hx
    obtain ⟨n2, y2, hy2, e2, _⟩ := key y hy
    have : m12 x.1 = m12 y.1 := by
      have e : π (m12 x.1) = π (m12 y.1) := e
      rw [e1, e2] at e ⊢
      exact A.inj2 hy1 hy2 e
    unfold m12 at this
    split at this <;> split at this <;> omega
  · obtain ⟨x, hx, rfl⟩ := List.mem_map.1 hb
    obtain ⟨_, y, hy, e1, _⟩ := key x hx
    rw [e1]
    exact List.mem_map.2 ⟨y, hy, rfl⟩
end
end Go.Proofs.YtofbdgmknfbkfaaGreatDoor.nodesLife
