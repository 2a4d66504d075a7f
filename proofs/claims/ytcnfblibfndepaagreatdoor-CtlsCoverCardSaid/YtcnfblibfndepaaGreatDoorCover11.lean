/- What else the law calls, wherever it lies. Conditions: those that each theorem names, and no others. -/
import Derived.Test.YtcnfblibfndepaaGreatDoorCover10
namespace Go.Proofs.YtcnfblibfndepaaGreatDoor.ctlsCover
open Go Go.Mini
/-! ### what else the law calls, where it lies -/
theorem stB_id (k nm m st : Nat) : (stB k nm m st).all (fun y => Nat.blt y.1 20 && y.2.names (fun c => Nat.blt c 20 && Nat.beq c c)) = true := by
  unfold stB
  split <;> rfl
section
variable {M : PM} {a b c n D : Nat} {ts : Nat → TS} {X : List (Nat × AObj)} {s : AS} {w : Nat → Nat} {ψ : Nat → Nat → Nat} {tb : Nat} {Ks : List Nat}
theorem tunP_self (k : Nat) : tunP ts k (ts k) = ts := by
  funext j
  unfold tunP
  split
  · rename_i e
    rw [e]
  · rfl
theorem now_at (h : LayW M ts X s w ψ tb Ks) (W : WI M a b c n D ts) : ∃ s' ψ', Sound Tryz.prog (.call 10 [.ptr (w 7) 0] s) ⟨.ret, [.agg (phC a b c n)], s'⟩ ∧ LayW (M.load aP) ts X s' w ψ' tb Ks ∧ (∀ d ∈ Ks, s'.get d = s.get d) ∧ ψ' 4 = ψ 4 ∧ s.nx ≤ s'.nx := by
  have hst := now_step W.ph W.lt
  have hc : CW ts X 0 = stB 0 (ts 0).nm (ts 0).md (ts 0).st := rfl
  have hf := hst.frame (CW ts X 0) (fun x hx => ⟨by have := (gz x hx).1; omega, rfl⟩) (eachX_all fun y hy => by
    rw [hc] at hy
    have := List.all_eq_true.1 (stB_id _ _ _ _) y hy
    simp only [Bool.and_eq_true] at this
    have h10 := stB_big _ _ _ _ y hy
    refine ⟨Nat.blt_eq ▸ this.1, rfl, this.2, fun hm => ?_⟩
    have hm : y.1 ∈ ([7, 8] : List Nat) := hm
    simp only [List.mem_cons, List.not_mem_nil, or_false] at hm
    omega)
  obtain ⟨s', π', a1, a2, a3, a4, a5⟩ := par_do h.par (cw_big h.big) (show 0 < 5 by decide) hf rfl rfl (by decide)
  obtain ⟨R, hR, hRo⟩ := h.row
  have a1 : Sound Tryz.prog (.call 10 [.ptr (ψ 0 7) 0] s) ⟨.ret, [.agg (phC a b c n)], s'⟩ := a1
  rw [h.par.sh 0 (by decide) (7, .cells false (M.C (.map 8))) (by simp [memP])] at a1
  have e : tun (CW ts X) 0 (CW ts X 0) = CW ts X := by
    funext j
    unfold tun
    split
    · rename_i e
      rw [e]
    · rfl
  rw [e] at a2
  have hRo2 := hRo.upd (R' := R) (k := 0) (t := ts 0) (π' := π') (by decide) (a5 10 (by decide) rfl) hRo.len (fun _ _ _ => rfl) (by rw [hRo.i 0 (by decide), a5 12 (by decide) rfl]) (by rw [hRo.o 0 (by decide), a5 12 (by decide) rfl])
  rw [tunP_self] at hRo2
  exact ⟨s', _, a1, ⟨a2, h.htb, ⟨R, by rw [a3 tb h.htb.1]; exact hR, hRo2⟩, h.rch, h.big, (a2.at_ 0 (by decide)).keys⟩, a3, tun_ne _ _ (by decide), a4⟩
theorem cw_x (X' : List (Nat × AObj)) : tun (CW ts X) 4 X' = CW ts X' := by
  funext j
  unfold tun CW
  by_cases e : j = 4
  · subst e
    rw [if_pos rfl, if_neg (by decide), if_pos rfl]
  · rw [if_neg e, if_neg e, if_neg e]
theorem xat_big {σ : SS} {to : Nat} {lk : Int} {C : List (Nat × AObj)} (h : XAt σ to lk C) : ∀ y ∈ C, 10 ≤ y.1 := fun y hy => by
  obtain ⟨nxt, xa, xb, xc, xn, bpx, o13, o15, o16, rfl, _⟩ := h.ex
  simp only [XB, List.mem_cons, List.not_mem_nil, or_false] at hy
  rcases hy with rfl | rfl | rfl | rfl
  · show 10 ≤ 11; decide
  · show 10 ≤ 13; decide
  · show 10 ≤ 15; decide
  · show 10 ≤ 16; decide
theorem RowOk.x {R : List AV} (h : RowOk R ψ ts) (π : Nat → Nat) : RowOk R (tun ψ 4 π) ts :=
  ⟨h.len, fun k hk => by rw [tun_ne _ _ (by omega)]; exact h.g k hk, fun k hk => by rw [tun_ne _ _ (by omega)]; exact h.i k hk, fun k hk => by rw [tun_ne _ _ (by omega)]; exact h.o k hk⟩
theorem swl_at {σ : SS} {to : Nat} {lk : Int} (h : LayW M ts X s w ψ tb Ks) (W : WI M a b c n D ts) (hX : XAt σ to lk X) (hO : σ.Ok to lk) : ∃ s' ψ' X', Sound Tryz.prog (.call 12 [.ptr (ψ 4 11) 0, .ptr (w 7) 0] s) ⟨.ret, [.bool (decide ((σ.step to lk M).1.ln = 0))], s'⟩ ∧ XAt (σ.step to lk M).1 to lk X' ∧ LayW (σ.step to lk M).2 ts X' s' w ψ' tb Ks ∧ (∀ d ∈ Ks, s'.get d = s.get d) ∧ ψ' 4 11 = ψ 4 11 ∧ s.nx ≤ s'.nx := by
  obtain ⟨C', κ, hX', hst, k7, k8, k11⟩ := sw_at hO hX W.lt
  have hc : CW ts X 4 = X := rfl
  obtain ⟨s', π', a1, a2, a3, a4, a5⟩ := par_do h.par (cw_big h.big) (show 4 < 5 by decide) (by rw [hc]; exact hst) k7 k8 (by decide)
  obtain ⟨R, hR, hRo⟩ := h.row
  have a1 : Sound Tryz.prog (.call 12 [.ptr (ψ 4 11) 0, .ptr (ψ 4 7) 0] s) ⟨.ret, [.bool (decide ((σ.step to lk M).1.ln = 0))], s'⟩ := a1
  rw [h.par.sh 4 (by decide) (7, .cells false (M.C (.map 8))) (by simp [memP])] at a1
  rw [cw_x] at a2
  exact ⟨s', _, C', a1, hX', ⟨a2, h.htb, ⟨R, by rw [a3 tb h.htb.1]; exact hR, hRo.x π'⟩, h.rch, xat_big hX', (a2.at_ 0 (by decide)).keys⟩, a3, by rw [tun_same]; exact a5 11 (by decide) k11, a4⟩
theorem news_at (h : LayW M ts X s w ψ tb Ks) (to : Nat) (lk : Int) : ∃ s' ψ' X', Sound Tryz.prog (.call 11 [.int .u8 (Int.ofNat to), .int .i64 lk] s) ⟨.ret, [.ptr (ψ' 4 11) 0], s'⟩ ∧ XAt ⟨1, 4, 0, -1, 0, 0, 0, 0, newB 0 lk⟩ to lk X' ∧ LayW M ts X' s' w ψ' tb Ks ∧ (∀ d ∈ Ks, s'.get d = s.get d) ∧ s.nx ≤ s'.nx := by
  obtain ⟨C', hX', hst⟩ := news_step to lk M
  have hc : CW ts X 4 = X := rfl
  have hs2 := hst.use (b1 := memP M ++ CW ts X 4) (b2 := memP M ++ C') (fun x hx => List.mem_append.2 (.inl hx)) (fun x hx => hx)
  obtain ⟨s', π', a1, a2, a3, a4, a5⟩ := par_do h.par (cw_big h.big) (show 4 < 5 by decide) hs2 rfl rfl (by decide)
  obtain ⟨R, hR, hRo⟩ := h.row
  rw [cw_x] at a2
  exact ⟨s', _, C', by rw [tun_same]; exact a1, hX', ⟨a2, h.htb, ⟨R, by rw [a3 tb h.htb.1]; exact hR, hRo.x π'⟩, h.rch, xat_big hX', (a2.at_ 0 (by decide)).keys⟩, a3, a4⟩
theorem gotl_at {σ : SS} {to : Nat} {lk : Int} (h : LayW M ts X s w ψ tb Ks) (hX : XAt σ to lk X) (h0 : σ.ln = 0) : Sound Tryz.prog (.call 14 [.ptr (ψ 4 11) 0] s) ⟨.ret, [i64 (Int.ofNat σ.en)], s⟩ :=
  got_at hX h0 fun x hx => eachX_mem (h.par.at_ 4 (by decide)).at_ x (List.mem_append.2 (.inr hx))
end
/-! covered -/
noncomputable def cC : Code := match Tryz.prog.funcs[16]? with
  | some fn => match fn.body with
    | some c => c
    | none => .skip
  | none => .skip
structure TsL (l : AV) (tb : Nat) : Prop where
  len : ∀ s, lenA Tryz.prog s 39 l = some (i64 4)
  idx : ∀ i, i < 4 → indexAddrA Tryz.prog 39 l (.int .i64 (Int.ofNat i)) = some (.ptr tb (3 * i))
def covD (s1 : AS) (tb g m y i : Nat) (b : Bool) : List Dec := [.val 16 3 2 (i64 4), .val 16 5 2 (.ptr tb (3 * i)), .val 16 5 4 (.ptr g 0), .call 16 5 5 (.bool b) (fun _ => s1)] ++ (bif b then [.val 16 5 9 (.ptr tb (3 * i)), .val 16 5 11 (.ptr g 0), .call 16 5 12 (.int .u8 (Int.ofNat m)) (fun _ => s1), .val 16 5 14 (.int .u8 (Int.ofNat (m &&& y))), .val 16 5 15 (.bool false)] else [])
def andQ (m y : Nat) : List Qst := [.val (some (.int .u8 (Int.ofNat ((BitVec.ofInt 8 (Int.ofNat m) &&& BitVec.ofInt 8 (Int.ofNat y)).toNat % 256)))) (.int .u8 (Int.ofNat (m &&& y))), .val (some (.bool (Int.ofNat (m &&& y) == Int.ofNat 0))) (.bool false)]
def covQ (s1 : AS) (l : AV) (tb g m y i : Nat) (b : Bool) : List Qst := [.ln 39 s1 l (i64 4), .idx 39 l (.int .i64 (Int.ofNat i)) (.ptr tb (3 * i)), .ld 40 s1 (.ptr tb (3 * i)) (.ptr g 0), .snd (.call 22 [.ptr g 0] s1) ⟨.ret, [.bool b], s1⟩] ++ (bif b then [.idx 39 l (.int .i64 (Int.ofNat i)) (.ptr tb (3 * i)), .ld 40 s1 (.ptr tb (3 * i)) (.ptr g 0), .snd (.call 34 [.ptr g 0] s1) ⟨.ret, [.int .u8 (Int.ofNat m)], s1⟩] ++ andQ m y else [])
theorem cov_run (s s1 : AS) (tb b y : Nat) (l : AV) (p : List AV) (g m : Nat → Nat) : ∀ i0 i1 i2 i3 : Bool, (runX Tryz.prog none_ 200 16 (.code cC ([.ptr b 0, l] ++ List.replicate 38 undefA) s) ([.call 16 1 1 (.agg p) (fun _ => s1), .pure 16 1 2 [] (.int .u8 (Int.ofNat y))] ++ (covD s1 tb (g 0) (m 0) y 0 i0 ++ (covD s1 tb (g 1) (m 1) y 1 i1 ++ (covD s1 tb (g 2) (m 2) y 2 i2 ++ (covD s1 tb (g 3) (m 3) y 3 i3 ++ [.val 16 3 2 (i64 4)])))))).map (fun x => (x.1.e, x.1.ts[4]?, x.1.s, x.2.2)) =
  some (.ret, some (.bool true), s1, [.snd (.call 10 [.ptr b 0] s) ⟨.ret, [.agg p], s1⟩, .pure [] 33 [.agg p] (.int .u8 (Int.ofNat y))] ++ (covQ s1 l tb (g 0) (m 0) y 0 i0 ++ (covQ s1 l tb (g 1) (m 1) y 1 i1 ++ (covQ s1 l tb (g 2) (m 2) y 2 i2 ++ (covQ s1 l tb (g 3) (m 3) y 3 i3 ++ [.ln 39 s1 l (i64 4)])))))
  | false, false, false, false => by kernel_rfl
  | true, false, false, false => by kernel_rfl
  | false, true, false, false => by kernel_rfl
  | true, true, false, false => by kernel_rfl
  | false, false, true, false => by kernel_rfl
  | true, false, true, false => by kernel_rfl
  | false, true, true, false => by kernel_rfl
  | true, true, true, false => by kernel_rfl
  | false, false, false, true => by kernel_rfl
  | true, false, false, true => by kernel_rfl
  | false, true, false, true => by kernel_rfl
  | true, true, false, true => by kernel_rfl
  | false, false, true, true => by kernel_rfl
  | true, false, true, true => by kernel_rfl
  | false, true, true, true => by kernel_rfl
  | true, true, true, true => by kernel_rfl
def hiB (p : Nat × Nat) : Nat := if 8 ≤ p.2 ∧ p.1 / 4 % 2 = 1 then 1 else 0
theorem heads (k nm : Nat) : ∀ p ∈ tabS, (stB k nm p.1 p.2).head? = some (10, gO k (Nat.ble 8 p.2) p.1 (hiB p)) :=
  fc (by kernel_rfl) (fc (by kernel_rfl) (fc (by kernel_rfl) (fc (by kernel_rfl) (fc (by kernel_rfl) (fc (by kernel_rfl) (fc (by kernel_rfl) (fc (by kernel_rfl) (fc (by kernel_rfl) (fc (by kernel_rfl) (fc (by kernel_rfl) (fc (by kernel_rfl) (fc (by kernel_rfl) (fc (by kernel_rfl) (fc (by kernel_rfl) (fc (by kernel_rfl) (fc (by kernel_rfl) (fc (by kernel_rfl) (fc (by kernel_rfl) (fc (by kernel_rfl) (fc (by kernel_rfl) (fc (by kernel_rfl) (fc (by kernel_rfl) (fc (by kernel_rfl) (fc (by kernel_rfl) (fc (by kernel_rfl) (fc (by kernel_rfl) (fc (by kernel_rfl) (fc (by kernel_rfl) (fc (by kernel_rfl) (fc (by kernel_rfl) (fc (by kernel_rfl) (fc (by kernel_rfl) (fc (by kernel_rfl) (fc (by kernel_rfl) (fc (by kernel_rfl) (fc (by kernel_rfl) (fc (by kernel_rfl) (fc (by kernel_rfl) (fc (by kernel_rfl) (fc (by kernel_rfl) (fc (by kernel_rfl) (fc (by kernel_rfl) (fc (by kernel_rfl) (fc (by kernel_rfl) (fc (by kernel_rfl) (fc (by kernel_rfl) (fc (by kernel_rfl) (fc (by kernel_rfl) (fc (by kernel_rfl) (fc (by kernel_rfl) (fn)))))))))))))))))))))))))))))))))))))))))))))))))))
theorem mem_head {α : Type} {l : List α} {x : α} (h : l.head? = some x) : x ∈ l := by
  cases l with
  | nil => cases h
  | cons y t =>
    simp only [List.head?_cons, Option.some.injEq] at h
    subst h
    exact List.mem_cons_self
theorem and_ok : ∀ m ∈ ([1, 2, 4, 3, 5, 6] : List Nat), ∀ y ∈ ([1, 2, 4] : List Nat), m &&& y ≠ 0 → Int.ofNat ((BitVec.ofInt 8 (Int.ofNat m) &&& BitVec.ofInt 8 (Int.ofNat y)).toNat % 256) = Int.ofNat (m &&& y) ∧ (Int.ofNat (m &&& y) == Int.ofNat 0) = false := by decide
section
variable {M : PM} {a b c n D : Nat} {ts : Nat → TS} {X : List (Nat × AObj)} {s : AS} {w : Nat → Nat} {ψ : Nat → Nat → Nat} {tb : Nat} {Ks : List Nat}
theorem covq_ok {l : AV} {s1 : AS} {k y : Nat} (hl : TsL l tb) (h : LayW M ts X s1 w ψ tb Ks) (hk : k < 4) (hm : 2 ≤ (ts k).st → okM (ts k).md) (hy : y ∈ ([1, 2, 4] : List Nat)) (hc : 2 ≤ (ts k).st → (ts k).md &&& y ≠ 0) : Qsts Tryz.prog (covQ s1 l tb (ψ k 10) (ts k).md y k (Nat.ble 8 (ts k).st)) := by
  obtain ⟨R, hR, hRo⟩ := h.row
  have P := (h.par.at_ k (by omega)).at_
  have hcw : CW ts X k = stB k (ts k).nm (ts k).md (ts k).st := by unfold CW; rw [if_pos hk]
  rw [hcw] at P
  have rch := h.rch k hk
  have tm := hm
  generalize ts k = t at *
  obtain ⟨st, md, nm⟩ := t
  unfold covQ
  rw [qsts_app]
  refine ⟨⟨hl.len s1, hl.idx k hk, ld_cell c40 hR (hRo.g k hk), ?_, trivial⟩, ?_⟩
  · rcases rch with e | e
    · have e : st ≤ 1 := e
      have hin : (10, gO k false 0 0) ∈ stB k nm md st := by
        have : st = 0 ∨ st = 1 := by omega
        rcases this with rfl | rfl
        · rw [stB0 k nm md 0 0]; exact List.mem_cons_self
        · rw [stB1 k nm md 0 0]; exact List.mem_cons_self
      have hb : Nat.ble 8 st = false := by
        have : st = 0 ∨ st = 1 := by omega
        rcases this with rfl | rfl <;> rfl
      have hg : s1.get (ψ k 10) = some (.cells false (gC k false 0 0 (ψ k 11))) := eachX_mem P (10, gO k false 0 0) (List.mem_append.2 (.inr hin))
      have q : Sound Tryz.prog (.call 22 [.ptr (ψ k 10) 0] s1) ⟨.ret, [.bool (Nat.ble 8 st)], s1⟩ := by
        rw [hb]
        exact in_at hg
      exact q
    · have hin := mem_head (heads k nm (md, st) e)
      have hg : s1.get (ψ k 10) = some (.cells false (gC k (Nat.ble 8 st) md (hiB (md, st)) (ψ k 11))) := eachX_mem P (10, gO k (Nat.ble 8 st) md (hiB (md, st))) (List.mem_append.2 (.inr hin))
      exact in_at hg
  · show Qsts Tryz.prog (bif Nat.ble 8 st then _ else _)
    cases hb : Nat.ble 8 st with
    | false => trivial
    | true =>
      have h8 : 8 ≤ st := Nat.le_of_ble_eq_true hb
      have h2 : 2 ≤ (⟨st, md, nm⟩ : TS).st := by show 2 ≤ st; omega
      have o := and_ok _ (okM_in (hm h2)) y hy (hc h2)
      rcases rch with e | e
      · have e : st ≤ 1 := e
        omega
      · have hin := mem_head (heads k nm (md, st) e)
        have hg : s1.get (ψ k 10) = some (.cells false (gC k (Nat.ble 8 st) md (hiB (md, st)) (ψ k 11))) := eachX_mem P (10, gO k (Nat.ble 8 st) md (hiB (md, st))) (List.mem_append.2 (.inr hin))
        rw [hb] at hg
        exact ⟨hl.idx k hk, ld_cell c40 hR (hRo.g k hk), gmode_at hg, by show some _ = some _; rw [o.1], by show some _ = some _; rw [o.2], trivial⟩
theorem by_in {a b c : Nat} (h : mayP a b c = true) : byP a b c ∈ ([1, 2, 4] : List Nat) := by
  obtain ⟨h1, h2⟩ := may_cases h
  unfold byP
  split
  · rename_i e
    rcases h2 with ⟨e2, _⟩ | ⟨_, h2, _⟩
    · omega
    · rcases sg_cases h2 with e | e | e <;> rw [e] <;> decide
  · rcases sg_cases h1 with e | e | e <;> rw [e] <;> decide
theorem cov_by {a b c md : Nat} (h : covM a b c md) (_ : a ≤ 3) : md &&& byP a b c ≠ 0 := by
  unfold byP
  split
  · exact h.2 (by omega)
  · rename_i e
    exact h.1 e
theorem covered_at {l : AV} (h : LayW M ts X s w ψ tb Ks) (W : WI M a b c n D ts) (hl : TsL l tb) : ∃ s' ψ', Sound Tryz.prog (.call 16 [.ptr (w 7) 0, l] s) ⟨.ret, [.bool true], s'⟩ ∧ LayW (M.load aP) ts X s' w ψ' tb Ks ∧ (∀ d ∈ Ks, s'.get d = s.get d) ∧ ψ' 4 = ψ 4 ∧ s.nx ≤ s'.nx := by
  have h0 := h.same (s2 := ent s) rfl rfl
  obtain ⟨s1, ψ1, a1, a2, a3, a4, a5⟩ := now_at h0 W
  have q := fun k (hk : k < 4) => covq_ok (y := byP a b c) hl a2 hk ((W.th k hk).md) (by_in W.ph.may) (fun h2 => cov_by ((W.th k hk).cov h2) W.ph.ha)
  have hr := cov_run (ent s) s1 tb (w 7) (byP a b c) l (phC a b c n) (fun k => ψ1 k 10) (fun k => (ts k).md) (Nat.ble 8 (ts 0).st) (Nat.ble 8 (ts 1).st) (Nat.ble 8 (ts 2).st) (Nat.ble 8 (ts 3).st)
  cases hx : runX Tryz.prog none_ 200 16 (.code cC ([.ptr (w 7) 0, l] ++ List.replicate 38 undefA) (ent s)) ([.call 16 1 1 (.agg (phC a b c n)) (fun _ => s1), .pure 16 1 2 [] (.int .u8 (Int.ofNat (byP a b c)))] ++ (covD s1 tb (ψ1 0 10) (ts 0).md (byP a b c) 0 (Nat.ble 8 (ts 0).st) ++ (covD s1 tb (ψ1 1 10) (ts 1).md (byP a b c) 1 (Nat.ble 8 (ts 1).st) ++ (covD s1 tb (ψ1 2 10) (ts 2).md (byP a b c) 2 (Nat.ble 8 (ts 2).st) ++ (covD s1 tb (ψ1 3 10) (ts 3).md (byP a b c) 3 (Nat.ble 8 (ts 3).st) ++ [.val 16 3 2 (i64 4)]))))) with
  | none => rw [hx] at hr; cases hr
  | some x =>
    rw [hx] at hr
    obtain ⟨⟨e, ts', s2⟩, ds', q'⟩ := x
    simp only [Option.map_some, Option.some.injEq, Prod.mk.injEq] at hr
    obtain ⟨rfl, r4, rfl, rfl⟩ := hr
    have hs := runX_sound mixed none_sound hx (by
      rw [qsts_app, qsts_app, qsts_app, qsts_app, qsts_app]
      exact ⟨⟨a1, byq W.ph.ha W.ph.may, trivial⟩, q 0 (by decide), q 1 (by decide), q 2 (by decide), q 3 (by decide), hl.len _, trivial⟩)
    have res : Tryz.f16.results.toList = [ResultVar.tmp 4] := by kernel_rfl
    have := keepC2 (s := s) (f := 16) (fn := Tryz.f16) (c := cC) (args := [.ptr (w 7) 0, l]) (vs := [.bool true]) Tryz.func16 (by kernel_rfl) (show Sound Tryz.prog (.code cC ([.ptr (w 7) 0, l] ++ List.replicate (Tryz.f16.ntmps - 2) undefA) (ent s)) ⟨.ret, ts', s2⟩ from by
      rw [show Tryz.f16.ntmps = 40 from by kernel_rfl]
      exact hs) (.inr rfl) (by
      rw [res]
      have e4 : tget ts' 4 = .bool true := by
        show (ts'[4]?).getD undefA = _
        rw [r4]
        rfl
      simp only [resultsA, resultA, e4])
    exact ⟨_, ψ1, this, a2.same rfl rfl, fun d hd => a3 d hd, a4, a5⟩
end
end Go.Proofs.YtcnfblibfndepaaGreatDoor.ctlsCover
