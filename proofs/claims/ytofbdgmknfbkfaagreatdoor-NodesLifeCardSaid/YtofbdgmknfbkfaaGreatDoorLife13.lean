/- What lies in a part of a thread, and its steps. Conditions: those that each theorem names, and no others. -/
import Derived.Test.YtofbdgmknfbkfaaGreatDoorLife12
import Derived.Test.YtofbdgmknfbkfaaGreatDoorLife5
namespace Go.Proofs.YtofbdgmknfbkfaaGreatDoor.nodesLife
open Go Go.Mini
/-! ### a call on a part's blocks, in any state -/
def SR (f : FuncId) (args : List AV) (M M' : PM) (bs : List (Nat × AObj)) (keep : List Nat) (Q : AV → List (Nat × AObj) → Prop) : Prop :=
  ∀ s π, At Tryz.prog (memP M ++ bs) GF s π → ∃ (s' : AS) (π' : Nat → Nat) (v : AV) (bs' : List (Nat × AObj)) (κ : Nat → Nat), Q v bs' ∧ (∀ b ∈ keep, b < 24 ∧ κ b = b) ∧ Sound Tryz.prog (.call f (rens π args) s) ⟨.ret, [v.ren π'], s'⟩ ∧ At Tryz.prog (memP M' ++ bs') GF s' π' ∧ Moved 24 (memP M ++ bs) (memP M' ++ bs') π π' κ s s'
theorem SR.of {f : FuncId} {args : List AV} {M M' : PM} {bs bs' : List (Nat × AObj)} {keep : List Nat} {Q : AV → List (Nat × AObj) → Prop} {v : AV} {κ : Nat → Nat} (h : SF f args v M M' bs bs' κ) (hk : ∀ b ∈ keep, b < 24 ∧ κ b = b) (hq : Q v bs') : SR f args M M' bs keep Q := fun s π A => by
  obtain ⟨s', π', h1, h2, h3⟩ := h s π A
  exact ⟨s', π', v, bs', κ, hq, hk, h1, h2, h3⟩
theorem SR.mono {f : FuncId} {args : List AV} {M M' : PM} {bs bs0 : List (Nat × AObj)} {keep : List Nat} {Q Q' : AV → List (Nat × AObj) → Prop} (h : SR f args M M' bs keep Q) (hb : ∀ x ∈ bs, x ∈ bs0) (hq : ∀ v C, Q v C → Q' v C) : SR f args M M' bs0 keep Q' := fun s π A => by
  have hs : ∀ x ∈ memP M ++ bs, x ∈ memP M ++ bs0 := sub_app (fun x hx => hx) hb
  obtain ⟨s', π', v, bs', κ, h1, h2, h3, h4, h5⟩ := h s π (A.sub hs)
  refine ⟨s', π', v, bs', κ, hq v bs' h1, h2, h3, h4, ⟨fun b hb => ?_, h5.low, fun c hc hd => h5.rest c hc fun d hd' => hd d (keys_sub hs d hd'), h5.nx⟩⟩
  rcases h5.old b hb with ⟨d, hd, e⟩ | e
  · exact .inl ⟨d, keys_sub hs d hd, e⟩
  · exact .inr e
/-- Blocks of names among KX that name nothing but KP. -/
def XK (KX KP : List Nat) (X : List (Nat × AObj)) : Prop := ∀ x ∈ X, x.1 ∈ KX ∧ x.2.names (inB KP) = true
theorem XK.app {KX KP : List Nat} {X Y : List (Nat × AObj)} (h : XK KX KP X) (h2 : XK KX KP Y) : XK KX KP (X ++ Y) := fun x hx => (List.mem_append.1 hx).elim (h x) (h2 x)
theorem XK.nil {KX KP : List Nat} : XK KX KP [] := fun x hx => by cases hx
theorem XK.cons {KX KP : List Nat} {b : Nat} {o : AObj} {X : List (Nat × AObj)} (hb : inB KX b = true) (ho : o.names (inB KP) = true) (h : XK KX KP X) : XK KX KP ((b, o) :: X) := fun x hx => by
  rcases List.mem_cons.1 hx with rfl | hx
  · exact ⟨inB_iff.1 hb, ho⟩
  · exact h x hx
theorem inB_sub {K K' : List Nat} (h : ∀ b ∈ K, b ∈ K') : ∀ b, inB K b = true → inB K' b = true := fun _ hb => inB_iff.2 (h _ (inB_iff.1 hb))
theorem XK.mono {KX KP KX' KP' : List Nat} {X : List (Nat × AObj)} (h : XK KX KP X) (h1 : ∀ b ∈ KX, b ∈ KX') (h2 : ∀ b ∈ KP, b ∈ KP') : XK KX' KP' X := fun x hx => ⟨h1 _ (h x hx).1, onames_sub (inB_sub h2) (h x hx).2⟩
theorem SF.fr {f : FuncId} {args : List AV} {v : AV} {M M' : PM} {C C' : List (Nat × AObj)} {κ : Nat → Nat} (h : SF f args v M M' C C' κ) {KX KP : List Nat} {X : List (Nat × AObj)} (hX : XK KX KP X) (hk : ∀ b ∈ KP, b < 24 ∧ κ b = b) (h01 : κ 0 = 0 ∧ κ 1 = 1) (hs : ∀ b ∈ KX, b ∈ KP) (hd : ∀ b ∈ KX, b ≠ 7 ∧ b ≠ 8 ∧ b ∉ C.map (·.1)) : SF f args v M M' (C ++ X) (C' ++ X) κ := by
  have := StepF.frame h X (fun x hx => by
    have := (gz x hx).1
    refine ⟨by omega, ?_⟩
    have e : x.1 = 0 ∨ x.1 = 1 := by omega
    rcases e with e | e <;> rw [e]
    · exact h01.1
    · exact h01.2) (eachX_all fun x hx => by
    obtain ⟨h1, h2⟩ := hX x hx
    refine ⟨(hk _ (hs _ h1)).1, (hk _ (hs _ h1)).2, onames_sub (fun b hb => ?_) h2, fun hm => ?_⟩
    · obtain ⟨h3, h4⟩ := hk b (inB_iff.1 hb)
      rw [h4, Nat.beq_refl, Bool.and_true]
      exact Nat.blt_eq.mpr h3
    · obtain ⟨h7, h8, h9⟩ := hd _ h1
      rw [List.map_append] at hm
      rcases List.mem_append.1 hm with hm | hm
      · have hm : x.1 ∈ ([7, 8] : List Nat) := hm
        simp only [List.mem_cons, List.not_mem_nil, or_false] at hm
        omega
      · exact h9 hm)
  unfold SF
  rw [← List.append_assoc, ← List.append_assoc]
  exact this
def gl (k : Nat) (B : List (Nat × AObj)) : List (Nat × AObj) := (10, gdO k) :: B
def K4 : List Nat := [10, 11, 12, 13]
theorem li_xk {k : Nat} {L : List Ent} {B : List (Nat × AObj)} (h : LiAt L B) : XK K4 K4 (gl k B) := by
  refine XK.cons rfl rfl ?_
  rcases h with ⟨_, rfl⟩ | ⟨_, OH, hO, rfl⟩ | ⟨_, OH, hO, rfl⟩
  · exact XK.cons rfl rfl XK.nil
  · exact XK.cons rfl rfl (XK.cons rfl (raw_any hO.names.2 _) XK.nil)
  · exact XK.cons rfl rfl (XK.cons rfl (entsC_names _ _) (XK.cons rfl (raw_any hO.names.2 _) XK.nil))
/-! ### a Gone's step, out of its scan's part's -/
section
variable {M M' : PM} {t : TypeId} {D D' N N' X Y : List (Nat × AObj)} {κ κ2 : Nat → Nat} {KX KP : List Nat} {cs cs' c2 c2' : List AV} {thr most thr' most' : Nat} {now : AV} {d : Bool}
theorem part_n (ht : isPart t) (h : SF (stepOf t) aA (.bool false) M M' D D' κ) (hX : XK KX KP X) (hk : ∀ b ∈ KP, b < 24 ∧ κ b = b) (h01 : κ 0 = 0 ∧ κ 1 = 1) (hs : ∀ b ∈ KX, b ∈ KP) (hd : ∀ b ∈ KX, b ≠ 7 ∧ b ≠ 8 ∧ b ∉ D.map (·.1))
    (h9 : (9, AObj.cells false cs) ∈ X) (h2 : cs[2]? = some (.iface t (.ptr 15 0))) (h18 : (18, goO thr most (.ptr 9 0)) ∈ X) (h19 : (19, AObj.cells false c2) ∈ X) (i19 : c2[1]? = some (i64 0)) : SF 38 aG (.bool false) M M' (D ++ X) (D' ++ X) κ := by
  have m : ∀ {x : Nat × AObj} {E : List (Nat × AObj)} {M : PM}, x ∈ X → x ∈ memP M ++ (E ++ X) := fun hx => List.mem_append.2 (.inr (List.mem_append.2 (.inr hx)))
  have k9 : κ 9 = 9 := (hk _ (hs _ (hX _ h9).1)).2
  have k18 : κ 18 = 18 := (hk _ (hs _ (hX _ h18).1)).2
  exact go_walk (sc_walk_n ht (SF.fr h hX hk h01 hs hd) (m h9) h2 (m h9) h2 k9) (m h18) (m h19) i19 (m h9) h2 (.inr ⟨rfl, _, _, rfl⟩) (m h18) (m h19) i19 (m h9) h2 (.inr ⟨rfl, _, _, rfl⟩) k18
theorem part_y (ht : isPart t) (h : SF (stepOf t) aA (.bool true) M M' D D' κ) (hX : XK KX KP X) (hk : ∀ b ∈ KP, b < 24 ∧ κ b = b) (h01 : κ 0 = 0 ∧ κ 1 = 1) (hs : ∀ b ∈ KX, b ∈ KP) (hd : ∀ b ∈ KX, b ≠ 7 ∧ b ≠ 8 ∧ b ∉ D.map (·.1))
    (hn : SF 102 aN (.tuple []) M' M' N N' κ2) {KX2 KP2 : List Nat} (hY : XK KX2 KP2 Y) (hk2 : ∀ b ∈ KP2, b < 24 ∧ κ2 b = b) (h01' : κ2 0 = 0 ∧ κ2 1 = 1) (hs2 : ∀ b ∈ KX2, b ∈ KP2) (hd2 : ∀ b ∈ KX2, b ≠ 7 ∧ b ≠ 8 ∧ b ∉ N.map (·.1)) (hin : ∀ x ∈ N ++ Y, x ∈ D' ++ X) (k92 : κ2 9 = 9)
    (h9 : (9, AObj.cells false cs) ∈ X) (h2 : cs[2]? = some (.iface t (.ptr 15 0))) (h18 : (18, goO thr most (.ptr 9 0)) ∈ X) (h19 : (19, AObj.cells false c2) ∈ X) (i19 : c2[1]? = some (i64 0))
    (h9' : (9, AObj.cells false cs') ∈ N' ++ Y) (h2' : cs'[2]? = some now) (hnow : NowOk d now) (h18' : (18, goO thr' most' (.ptr 9 0)) ∈ Y) (h19' : (19, AObj.cells false c2') ∈ Y) (i19' : c2'[1]? = some (i64 0)) : SF 38 aG (.bool d) M M' (D ++ X) (N' ++ Y) (kc κ κ2) := by
  have m : ∀ {x : Nat × AObj} {E F : List (Nat × AObj)} {M : PM}, x ∈ F → x ∈ memP M ++ (E ++ F) := fun hx => List.mem_append.2 (.inr (List.mem_append.2 (.inr hx)))
  have k9 : κ 9 = 9 := (hk _ (hs _ (hX _ h9).1)).2
  have k18 : κ 18 = 18 := (hk _ (hs _ (hX _ h18).1)).2
  have k182 : κ2 18 = 18 := (hk2 _ (hs2 _ (hY _ h18').1)).2
  have a := SF.fr h hX hk h01 hs hd
  have b := SF.fr hn hY hk2 h01' hs2 hd2
  have b' := StepF.use b (b1 := memP M' ++ (D' ++ X)) (b2 := memP M' ++ (N' ++ Y)) (sub_app (fun x hx => hx) hin) (fun x hx => hx)
  exact go_walk (sc_walk_y ht a b' (m h9) h2 (List.mem_append.2 (.inr h9')) h2' hnow k9 k92) (m h18) (m h19) i19 (m h9) h2 (.inr ⟨rfl, _, _, rfl⟩) (m h18') (m h19') i19' (List.mem_append.2 (.inr h9')) h2' hnow (kc_eq k18 k182)
end
end Go.Proofs.YtofbdgmknfbkfaaGreatDoor.nodesLife
namespace Go.Proofs.YtofbdgmknfbkfaaGreatDoor.nodesLife
open Go Go.Mini
/-! ### what lies in a thread's part -/
inductive Kd where
  | no
  | al
  | mk
  | go
  | fr
def kd : Op → Kd
  | .no => .no
  | .a1 _ _ => .al
  | .a2 _ _ => .al
  | .a3 _ _ => .al
  | .a4 _ _ _ => .al
  | .a5 _ _ _ => .al
  | .a6 _ _ _ _ => .al
  | .a7 _ _ => .al
  | .a8 _ _ _ => .al
  | .mk _ _ _ => .mk
  | .rt _ _ _ _ _ _ => .go
  | .sc _ _ => .go
  | .fr _ _ _ _ => .go
  | .dr _ => .fr
def goB (thr most : Nat) (z : Int) (g b e r : Nat) : List (Nat × AObj) := [(18, goO thr most (.ptr 9 0)), (19, rtO 0 z g b e r)]
def sc0 (most : Nat) (now : AV) (y n : Nat) : AObj := scO most now y n .nilSlice .nilSlice .nilSlice
/-- The scan's block, and its part's. -/
def scS (most n y : Nat) : Sc → AObj
  | .s1 => sc0 most nLd 0 0
  | .v1 => sc0 most nAd y n
  | .v2 _ => sc0 most nAd y n
  | .v3 _ _ => sc0 most nAd y n
  | .v4 _ => sc0 most nAd y n
  | .w1 => sc0 most nBu y n
  | .w2 _ => sc0 most nBu y n
  | .t1 => sc0 most nTk y n
  | .t2 _ => sc0 most nTk y n
  | .s5 => scO most nLd y n sN .nilSlice .nilSlice
def scD : Sc → List (Nat × AObj)
  | .s1 => [(15, ldO 3 0)]
  | .v1 => [(15, advO 1 0 0 0 false)]
  | .v2 e => [(15, advO 2 e 0 0 false)]
  | .v3 e i => [(15, advO 3 e i 4 false)]
  | .v4 e => [(15, advO 4 e 4 4 false)]
  | .w1 => [(15, bmpO 2 0 false)]
  | .w2 e => [(15, bmpO 1 e false)]
  | .t1 => [(15, tkO tkB .nilSlice 0 0)]
  | .t2 i => [(15, tkO tkW (.slice 14 0 4 4) i 4), (14, .cells false Z40)]
  | .s5 => [(15, ldO 1 0), (14, .cells false Z40)]
def opB (thr most : Nat) (t : Th) (C : List (Nat × AObj)) : Prop := match t.op with
  | .no => C = []
  | .a1 h x => C = bA 1 h x
  | .a2 h x => C = bA 2 h x
  | .a3 h x => C = bA 3 h x
  | .a4 z h x => C = bB 2 0 h (Int.ofNat z) x
  | .a5 z h x => C = bB 3 0 h (Int.ofNat z) x
  | .a6 z h x e => C = bB 4 e h (Int.ofNat z) x
  | .a7 z e => C = bH e (Int.ofNat z) 0 false
  | .a8 z e g => C = bH e (Int.ofNat z) g true
  | .mk z _ j => C = mkB (Int.ofNat z) (4 * j) (3 - j)
  | .rt l z g b e r => C = rtB thr most l (Int.ofNat z) g b e r
  | .sc y s => ∃ z g b e r, C = goB thr most z g b e r ++ ((9, scS most t.L.length y s) :: (scD s ++ []))
  | .fr y x goes freed => ∃ z g b e r m o R D, C = goB thr most z g b e r ++ ((9, scO most nFr y m sN (.slice 20 o goes.length goes.length) (.osl 21 0 freed.length 3)) :: (D ++ [(20, .cells false R), (21, .cells false (refsC freed))])) ∧ frAt most x D ∧ GoesAt R o goes
  | .dr x => frAt most x C
def PartAt (k thr most : Nat) (t : Th) (P : List (Nat × AObj)) : Prop := ∃ B C, LiAt t.L B ∧ opB thr most t C ∧ P = C ++ gl k B
def FinQ (thr most : Nat) (t t' : Th) (out : List RefP) (C : List (Nat × AObj)) : Prop := match kd t.op with
  | .al => out = [] ∧ ((t'.op = .no ∧ t'.held = t.held ∧ ∃ h x, C = bA0 h x) ∨ ∃ e z g, z < 16 ∧ t'.op = .mk z g 0 ∧ t'.held = t.held ++ [(z, g)] ∧ C = bE e (Int.ofNat z) g)
  | .go => t'.op = .no ∧ t'.held = t.held ∧ ((out = [] ∧ (18, goO thr most .nilPtr) ∈ C) ∨ (out = [] ∧ ∃ y m, (18, goO thr most (.ptr 9 0)) ∈ C ∧ (9, scO most .nilIface y m sN .nilSlice .nilSlice) ∈ C) ∨
      (out ≠ [] ∧ out.length ≤ 16 ∧ ∃ y m o, (18, goO thr most (.ptr 9 0)) ∈ C ∧ (9, scO most .nilIface y m sN (.slice 20 o 0 0) (.osl 21 0 out.length 3)) ∈ C ∧ (21, .cells false (refsC out)) ∈ C))
  | _ => out = [] ∧ t'.op = .no ∧ t'.held = t.held
/-- What a step of what is under way answers, and leaves. -/
def StQ (k thr most : Nat) (t t' : Th) (out : List RefP) (v : AV) (P' : List (Nat × AObj)) : Prop :=
  (v = .bool false ∧ PartAt k thr most t' P' ∧ out = [] ∧ kd t'.op = kd t.op ∧ t'.held = t.held) ∨
  (v = .bool true ∧ ∃ B C, LiAt t'.L B ∧ P' = C ++ gl k B ∧ FinQ thr most t t' out C)
theorem SF.fl {f : FuncId} {args : List AV} {v : AV} {M M' : PM} {C C' : List (Nat × AObj)} {κ : Nat → Nat} {k : Nat} {L : List Ent} {B : List (Nat × AObj)} (hB : LiAt L B) (h : SF f args v M M' C C' κ) (hk : ∀ b ∈ [0, 1, 10, 11, 12, 13], κ b = b) (hd : ∀ b ∈ K4, b ∉ C.map (·.1)) : SF f args v M M' (C ++ gl k B) (C' ++ gl k B) κ :=
  SF.fr h (li_xk (k := k) hB) (fun b hb => by
    simp only [K4, List.mem_cons, List.not_mem_nil, or_false] at hb
    rcases hb with rfl | rfl | rfl | rfl
    · exact ⟨by decide, hk 10 (by decide)⟩
    · exact ⟨by decide, hk 11 (by decide)⟩
    · exact ⟨by decide, hk 12 (by decide)⟩
    · exact ⟨by decide, hk 13 (by decide)⟩) ⟨hk 0 (by decide), hk 1 (by decide)⟩ (fun _ h => h) fun b hb => by
    refine ⟨?_, ?_, hd b hb⟩ <;> (simp only [K4, List.mem_cons, List.not_mem_nil, or_false] at hb; omega)
def kA : List Nat := [7, 8, 10, 15]
section
variable {most K thr k : Nat} {M : PM} {FL : List Nat} {th : Nat → Th} {G : List RefP} {P : List (Nat × AObj)}
/-- A step that is not the last one. -/
theorem sr_go {f : FuncId} {args : List AV} {keep : List Nat} {held : List RefP} {L : List Ent} {op op' : Op} {M' : PM} {B C C' : List (Nat × AObj)} {κ : Nat → Nat} (hB : LiAt L B) (h : SF f args (.bool false) M M' C C' κ) (hk : ∀ b ∈ [0, 1, 10, 11, 12, 13], κ b = b) (hd : ∀ b ∈ K4, b ∉ C.map (·.1)) (hK : ∀ b ∈ keep, b < 24 ∧ κ b = b)
    (ho : opB thr most ⟨held, L, op'⟩ C') (hkd : kd op' = kd op) : SR f args M M' (C ++ gl k B) keep (StQ k thr most ⟨held, L, op⟩ ⟨held, L, op'⟩ []) :=
  SR.of (SF.fl hB h hk hd) hK (.inl ⟨rfl, ⟨B, C', hB, ho, rfl⟩, rfl, hkd, rfl⟩)
theorem sr_end {f : FuncId} {args : List AV} {keep : List Nat} {t t' : Th} {M' : PM} {B C C' : List (Nat × AObj)} {κ : Nat → Nat} {out : List RefP} (hB : LiAt t'.L B) (h : SF f args (.bool true) M M' C C' κ) (hk : ∀ b ∈ [0, 1, 10, 11, 12, 13], κ b = b) (hd : ∀ b ∈ K4, b ∉ C.map (·.1)) (hK : ∀ b ∈ keep, b < 24 ∧ κ b = b)
    (ho : FinQ thr most t t' out C') : SR f args M M' (C ++ gl k B) keep (StQ k thr most t t' out) :=
  SR.of (SF.fl hB h hk hd) hK (.inr ⟨rfl, B, C', hB, rfl, ho⟩)
theorem sr_eq {f : FuncId} {args : List AV} {keep : List Nat} {t t' : Th} {M' : PM} {out : List RefP} {sel : Nat → Bool} (e : go most thr sel M t = (M', t', out)) (h : SR f args M M' P keep (StQ k thr most t t' out)) : SR f args M (go most thr sel M t).1 P keep (StQ k thr most t (go most thr sel M t).2.1 (go most thr sel M t).2.2) := by
  rw [e]
  exact h
theorem alloc_sr (I : Inv most K M FL th G) (hk : k < 3) (hm : most < 4294967296) (E : ExT (th k)) (sel : Nat → Bool) (hP : PartAt k thr most (th k) P) (hop : kd (th k).op = .al) : SR 36 aA M (go most thr sel M (th k)).1 P kA (StQ k thr most (th k) (go most thr sel M (th k)).2.1 (go most thr sel M (th k)).2.2) := by
  have hl := I.lt
  have O := (I.ok k hk).op
  have rO := I.rO k hk
  obtain ⟨B, C, hB, hC, rfl⟩ := hP
  have EO := E.op
  obtain ⟨held, L, op, ht⟩ : ∃ held L op, th k = ⟨held, L, op⟩ := ⟨_, _, _, rfl⟩
  rw [ht] at hop O hB hC EO ⊢
  have ow : ∀ z ∈ ownO op, z < 16 := fun z hz => rO z (by rw [ht]; simp [own, hz])
  have hB : LiAt L B := hB
  have d1 : ∀ b ∈ K4, b ∉ ([15, 16] : List Nat) := by decide
  have d2 : ∀ b ∈ K4, b ∉ ([15, 16, 17] : List Nat) := by decide
  have n1 : ∀ b ∈ [0, 1, 10, 11, 12, 13], kl [] b = b := by decide
  have n2 : ∀ b ∈ kA, b < 24 ∧ kl [] b = b := by decide
  cases op with
  | no => cases hop
  | mk z g j => cases hop
  | rt l z g b e r => cases hop
  | sc y s => cases hop
  | fr y x a b => cases hop
  | dr x => cases hop
  | a1 h x =>
    obtain rfl : C = bA 1 h x := hC
    by_cases hn : slI (getW M.ms aF) < 0
    · have e : go most thr sel M ⟨held, L, .a1 h x⟩ = (M.load aF, ⟨held, L, .no⟩, []) := by simp only [go, if_pos hn]
      exact sr_eq e (sr_end (t' := ⟨held, L, .no⟩) hB (s_a1n hl hn) n1 d1 n2 ⟨rfl, .inl ⟨rfl, rfl, _, _, rfl⟩⟩)
    · have e : go most thr sel M ⟨held, L, .a1 h x⟩ = (M.load aF, ⟨held, L, .a2 (getW M.ms aF) x⟩, []) := by simp only [go, if_neg hn]
      exact sr_eq e (sr_go hB (s_a1y hl hn) n1 d1 n2 rfl rfl)
  | a2 h x =>
    obtain rfl : C = bA 2 h x := hC
    have O : cok M h ∧ 0 ≤ slI h := O
    exact sr_eq rfl (sr_go hB (s_a2 hl EO (show slI h = Int.ofNat (slI h).toNat from (Int.toNat_of_nonneg O.2).symm)) n1 d1 n2 rfl rfl)
  | a3 h x =>
    obtain rfl : C = bA 3 h x := hC
    obtain ⟨o1, o2, o3, o4⟩ : cok M h ∧ 0 ≤ slI h ∧ slR x ∧ (h = hdW M → x = lnk M (slI h).toNat) := O
    cases hc : M.casd aF h with
    | false =>
      have e : go most thr sel M ⟨held, L, .a3 h x⟩ = (M.cas aF h (hdN x (tgN h + 1)), ⟨held, L, .a1 h x⟩, []) := by simp [go, hc]
      exact sr_eq e (sr_go hB (s_a3n EO o3 hc) n1 d1 n2 rfl rfl)
    | true =>
      have e : go most thr sel M ⟨held, L, .a3 h x⟩ = (M.cas aF h (hdN x (tgN h + 1)), ⟨held, L, .a4 (slI h).toNat h x⟩, []) := by simp [go, hc]
      refine sr_eq e (sr_go hB (s_a3y EO o3 hc) n1 d1 n2 ?_ rfl)
      show bB 2 0 h (slI h) x = bB 2 0 h (Int.ofNat (slI h).toNat) x
      rw [show Int.ofNat (slI h).toNat = slI h from Int.toNat_of_nonneg o2]
  | a4 z h x =>
    obtain rfl : C = bB 2 0 h (Int.ofNat z) x := hC
    have hz := ow z (by simp [ownO])
    have h1 : getW M.ms (aSg (z / 8) 0) = 1 := by
      have : z / 8 = 0 ∨ z / 8 = 1 := by omega
      rcases this with e | e <;> rw [e]
      · exact I.con.s0
      · exact I.con.s1
    exact sr_eq rfl (sr_go hB (s_a4 hz h1) n1 d1 n2 rfl rfl)
  | a5 z h x =>
    obtain rfl : C = bB 3 0 h (Int.ofNat z) x := hC
    exact sr_eq rfl (sr_go hB s_a5 n1 d1 n2 rfl rfl)
  | a6 z h x e =>
    obtain rfl : C = bB 4 e h (Int.ofNat z) x := hC
    exact sr_eq rfl (sr_go hB s_a6 (by decide) d1 (by decide) rfl rfl)
  | a7 z e =>
    obtain rfl : C = bH e (Int.ofNat z) 0 false := hC
    exact sr_eq rfl (sr_go hB (s_a7 hl) n1 d2 n2 rfl rfl)
  | a8 z e g =>
    obtain rfl : C = bH e (Int.ofNat z) g true := hC
    have O : g ≤ most ∧ hdr M z = mkw 0 g := O
    exact sr_eq rfl (sr_end (t' := ⟨held ++ [(z, g)], L, .mk z g 0⟩) hB (s_a8 (by omega)) n1 d2 n2 ⟨rfl, .inr ⟨e, z, g, ow z (by simp [ownO]), rfl, rfl, rfl⟩⟩)
theorem make_sr (I : Inv most K M FL th G) (hk : k < 3) (sel : Nat → Bool) (hP : PartAt k thr most (th k) P) (hop : kd (th k).op = .mk) : SR 22 aA M (go most thr sel M (th k)).1 P kA (StQ k thr most (th k) (go most thr sel M (th k)).2.1 (go most thr sel M (th k)).2.2) := by
  have O := (I.ok k hk).op
  obtain ⟨B, C, hB, hC, rfl⟩ := hP
  obtain ⟨held, L, op, ht⟩ : ∃ held L op, th k = ⟨held, L, op⟩ := ⟨_, _, _, rfl⟩
  rw [ht] at hop O hB hC ⊢
  have hB : LiAt L B := hB
  have d1 : ∀ b ∈ K4, b ∉ ([15, 16] : List Nat) := by decide
  have n1 : ∀ b ∈ [0, 1, 10, 11, 12, 13], kl [] b = b := by decide
  have n2 : ∀ b ∈ kA, b < 24 ∧ kl [] b = b := by decide
  cases op with
  | mk z g j =>
    obtain rfl : C = mkB (Int.ofNat z) (4 * j) (3 - j) := hC
    have O : (z, g) ∈ held ∧ j ≤ 2 := O
    have hj : j = 0 ∨ j = 1 ∨ j = 2 := by omega
    rcases hj with rfl | rfl | rfl
    · exact sr_eq rfl (sr_go hB s_mk0 n1 d1 n2 rfl rfl)
    · exact sr_eq rfl (sr_go hB s_mk1 n1 d1 n2 rfl rfl)
    · exact sr_eq rfl (sr_end (t' := ⟨held, L, .no⟩) hB s_mk2 n1 d1 n2 ⟨rfl, rfl, rfl⟩)
  | _ => cases hop
end
end Go.Proofs.YtofbdgmknfbkfaaGreatDoor.nodesLife
namespace Go.Proofs.YtofbdgmknfbkfaaGreatDoor.nodesLife
open Go Go.Mini
/-! ### a Gone's steps -/
theorem perm1 {α : Type} {x a : α} {Z W D R : List α} : x ∈ D ++ (a :: (W ++ (Z ++ R))) ↔ x ∈ (Z ++ (a :: (D ++ W))) ++ R := by
  simp only [List.mem_append, List.mem_cons]
  grind
theorem perm2 {α : Type} {x a : α} {Z E R : List α} : x ∈ (a :: E) ++ (Z ++ R) ↔ x ∈ (Z ++ (a :: E)) ++ R := by
  simp only [List.mem_append, List.mem_cons]
  grind
def KG : List Nat := [9, 10, 11, 12, 13, 18, 19]
def KY : List Nat := [10, 11, 12, 13, 18, 19]
def KGP : List Nat := [9, 10, 11, 12, 13, 15, 18, 19]
def KF : List Nat := [9, 10, 11, 12, 13, 18, 19, 20, 21]
def KFP : List Nat := [9, 10, 11, 12, 13, 14, 15, 18, 19, 20, 21]
def scC (most : Nat) (now : AV) (y m : Nat) (sn gs fr : AV) : List AV := [.ptr 10 0, u32 most, now, u8 y, i64 (Int.ofNat m), sn, u64 0, gs, fr]
theorem gob_xk {thr most : Nat} {z : Int} {g b e r : Nat} : XK [18, 19] [9, 10, 18, 19] (goB thr most z g b e r) := XK.cons rfl rfl (XK.cons rfl rfl XK.nil)
section
variable {M M' : PM} {t : TypeId} {D D' D2 E W B : List (Nat × AObj)} {L : List Ent} {κ κ2 : Nat → Nat} {KX KP : List Nat} {cs cs' : List AV} {thr most k : Nat} {z : Int} {g b e r : Nat} {now : AV} {d : Bool}
theorem gy_xk (hB : LiAt L B) : XK KY KG (goB thr most z g b e r ++ gl k B) := XK.app (gob_xk.mono (by decide) (by decide)) ((li_xk hB).mono (by decide) (by decide))
theorem m19 {X : List (Nat × AObj)} : (19, AObj.cells false [.ptr 10 0, i64 (Int.ofNat 0), i64 z, u32 g, .bool false, u64 b, u64 e, u64 r]) ∈ goB thr most z g b e r ++ X := List.mem_append.2 (.inl (List.mem_cons_of_mem _ List.mem_cons_self))
theorem m18 {X : List (Nat × AObj)} : (18, goO thr most (.ptr 9 0)) ∈ goB thr most z g b e r ++ X := List.mem_append.2 (.inl List.mem_cons_self)
theorem scn (ht : isPart t) (h : SF (stepOf t) aA (.bool false) M M' D D' κ) (hB : LiAt L B) (hW : XK KX KP W) (hS : (AObj.cells false cs).names (inB KP) = true) (h2 : cs[2]? = some (.iface t (.ptr 15 0))) (hKX : ∀ b ∈ KG, b ∈ KX) (hk : ∀ b ∈ KP, b < 24 ∧ κ b = b) (h01 : κ 0 = 0 ∧ κ 1 = 1) (hs : ∀ b ∈ KX, b ∈ KP) (hd : ∀ b ∈ KX, b ≠ 7 ∧ b ≠ 8 ∧ b ∉ D.map (·.1)) :
    SF 38 aG (.bool false) M M' ((goB thr most z g b e r ++ ((9, .cells false cs) :: (D ++ W))) ++ gl k B) ((goB thr most z g b e r ++ ((9, .cells false cs) :: (D' ++ W))) ++ gl k B) κ := by
  have hY : XK KX KP (goB thr most z g b e r ++ gl k B) := (gy_xk hB).mono (fun b hb => hKX b (by revert b; decide)) (fun b hb => hs b (hKX b hb))
  have hX : XK KX KP ((9, .cells false cs) :: (W ++ (goB thr most z g b e r ++ gl k B))) := fun x hx => by
    rcases List.mem_cons.1 hx with rfl | hx
    · exact ⟨hKX 9 (by decide), hS⟩
    · exact (hW.app hY) x hx
  have m : ∀ {x : Nat × AObj}, x ∈ goB thr most z g b e r ++ gl k B → x ∈ (9, AObj.cells false cs) :: (W ++ (goB thr most z g b e r ++ gl k B)) := fun hx => List.mem_cons_of_mem _ (List.mem_append.2 (.inr hx))
  exact StepF.use (part_n ht h hX hk h01 hs hd List.mem_cons_self h2 (m m18) (m m19) rfl) (sub_app (fun x hx => hx) fun x hx => perm1.1 hx) (sub_app (fun x hx => hx) fun x hx => perm1.2 hx)
theorem scy (ht : isPart t) (h : SF (stepOf t) aA (.bool true) M M' D D' κ) (hn : SF 102 aN (.tuple []) M' M' ((9, .cells false cs) :: D2) ((9, .cells false cs') :: E) κ2) (h22 : ∀ x ∈ D2, x ∈ D' ++ W) (hB : LiAt L B) (hW : XK KX KP W) (hS : (AObj.cells false cs).names (inB KP) = true) (h2 : cs[2]? = some (.iface t (.ptr 15 0))) (hKX : ∀ b ∈ KG, b ∈ KX) (hk : ∀ b ∈ KP, b < 24 ∧ κ b = b) (h01 : κ 0 = 0 ∧ κ 1 = 1) (hs : ∀ b ∈ KX, b ∈ KP) (hd : ∀ b ∈ KX, b ≠ 7 ∧ b ≠ 8 ∧ b ∉ D.map (·.1))
    (hk2 : ∀ b ∈ KG, b < 24 ∧ κ2 b = b) (h012 : κ2 0 = 0 ∧ κ2 1 = 1) (hd2 : ∀ b ∈ KY, b ∉ 9 :: D2.map (·.1)) (h2' : cs'[2]? = some now) (hnow : NowOk d now) :
    SF 38 aG (.bool d) M M' ((goB thr most z g b e r ++ ((9, .cells false cs) :: (D ++ W))) ++ gl k B) ((goB thr most z g b e r ++ ((9, .cells false cs') :: E)) ++ gl k B) (kc κ κ2) := by
  have hY0 : XK KY KG (goB thr most z g b e r ++ gl k B) := gy_xk hB
  have hY : XK KX KP (goB thr most z g b e r ++ gl k B) := hY0.mono (fun b hb => hKX b (by revert b; decide)) (fun b hb => hs b (hKX b hb))
  have hX : XK KX KP ((9, .cells false cs) :: (W ++ (goB thr most z g b e r ++ gl k B))) := fun x hx => by
    rcases List.mem_cons.1 hx with rfl | hx
    · exact ⟨hKX 9 (by decide), hS⟩
    · exact (hW.app hY) x hx
  have m : ∀ {x : Nat × AObj}, x ∈ goB thr most z g b e r ++ gl k B → x ∈ (9, AObj.cells false cs) :: (W ++ (goB thr most z g b e r ++ gl k B)) := fun hx => List.mem_cons_of_mem _ (List.mem_append.2 (.inr hx))
  have hin : ∀ x ∈ ((9, AObj.cells false cs) :: D2) ++ (goB thr most z g b e r ++ gl k B), x ∈ D' ++ ((9, AObj.cells false cs) :: (W ++ (goB thr most z g b e r ++ gl k B))) := fun x hx => by
    rcases List.mem_append.1 hx with hx | hx
    · rcases List.mem_cons.1 hx with rfl | hx
      · exact List.mem_append.2 (.inr List.mem_cons_self)
      · rcases List.mem_append.1 (h22 x hx) with hx | hx
        · exact List.mem_append.2 (.inl hx)
        · exact List.mem_append.2 (.inr (List.mem_cons_of_mem _ (List.mem_append.2 (.inl hx))))
    · exact List.mem_append.2 (.inr (m hx))
  have p := part_y (thr := thr) (most := most) (thr' := thr) (most' := most) ht h hX hk h01 hs hd hn hY0 hk2 h012 (by decide) (fun b hb => ⟨by revert b; decide, by revert b; decide, hd2 b hb⟩) hin (hk2 9 (by decide)).2 List.mem_cons_self h2 (m m18) (m m19) rfl (List.mem_append.2 (.inl List.mem_cons_self)) h2' hnow m18 m19 rfl
  exact StepF.use p (sub_app (fun x hx => hx) fun x hx => perm1.1 hx) (sub_app (fun x hx => hx) fun x hx => perm2.2 hx)
end
theorem fr_keys {most : Nat} {x : Fr} {D : List (Nat × AObj)} (h : frAt most x D) : ∀ b ∈ D.map (·.1), b = 15 ∨ b = 16 ∨ b = 17 := by
  cases x with
  | f3 z =>
    obtain ⟨g, rfl⟩ := h
    exact (by decide : ∀ b ∈ ([15, 16, 17] : List Nat), b = 15 ∨ b = 16 ∨ b = 17)
  | f1 z => obtain rfl := h; exact (by decide : ∀ b ∈ ([15, 16, 17] : List Nat), b = 15 ∨ b = 16 ∨ b = 17)
  | f2 z g => obtain rfl := h; exact (by decide : ∀ b ∈ ([15, 16, 17] : List Nat), b = 15 ∨ b = 16 ∨ b = 17)
  | p1 z h' => obtain rfl := h; exact (by decide : ∀ b ∈ ([15, 16] : List Nat), b = 15 ∨ b = 16 ∨ b = 17)
  | p2 z h' => obtain rfl := h; exact (by decide : ∀ b ∈ ([15, 16] : List Nat), b = 15 ∨ b = 16 ∨ b = 17)
  | p3 z h' => obtain rfl := h; exact (by decide : ∀ b ∈ ([15, 16] : List Nat), b = 15 ∨ b = 16 ∨ b = 17)
  | c1 z n => obtain rfl := h; exact (by decide : ∀ b ∈ ([15, 16] : List Nat), b = 15 ∨ b = 16 ∨ b = 17)
  | c2 z n => obtain rfl := h; exact (by decide : ∀ b ∈ ([15, 16] : List Nat), b = 15 ∨ b = 16 ∨ b = 17)
theorem frW_hw {x : Fr} (h : frW x) : ∀ z h', x = .p2 z h' ∨ x = .p3 z h' → h' < 18446744073709551616 := fun z h' e => by
  rcases e with rfl | rfl <;> exact h
theorem low_01 {κ : Nat → Nat} (h : Low κ) : κ 0 = 0 ∧ κ 1 = 1 := ⟨h 0 (.inl (by decide)), h 1 (.inl (by decide))⟩
theorem low_k6 {κ : Nat → Nat} (h : Low κ) : ∀ b ∈ [0, 1, 10, 11, 12, 13], κ b = b := fun b hb => h b (.inl (by
  simp only [List.mem_cons, List.not_mem_nil, or_false] at hb
  omega))
theorem low_kA {κ : Nat → Nat} (h : Low κ) (h15 : κ 15 = 15) : ∀ b ∈ kA, b < 24 ∧ κ b = b := fun b hb => by
  simp only [kA, List.mem_cons, List.not_mem_nil, or_false] at hb
  rcases hb with rfl | rfl | rfl | rfl
  · exact ⟨by decide, h 7 (.inl (by decide))⟩
  · exact ⟨by decide, h 8 (.inl (by decide))⟩
  · exact ⟨by decide, h 10 (.inl (by decide))⟩
  · exact ⟨by decide, h15⟩
theorem low_kF {κ : Nat → Nat} (h : Low κ) (h15 : κ 15 = 15) : ∀ b ∈ KFP, b < 24 ∧ κ b = b := fun b hb => by
  simp only [KFP, List.mem_cons, List.not_mem_nil, or_false] at hb
  by_cases e : b = 15
  · subst e
    exact ⟨by decide, h15⟩
  · exact ⟨by omega, h b (by omega)⟩
section
variable {most K thr k : Nat} {M : PM} {FL : List Nat} {th : Nat → Th} {G : List RefP} {P : List (Nat × AObj)}
theorem fr_frs (I : Inv most K M FL th G) (hk : k < 3) (hm : most < 4294967296) {s0 : Nat} (h12 : s0 = 1 ∨ s0 = 2) {x : Fr} (hx : frOk most M s0 x) (hz : x.z ∈ own (th k)) (hw : frW x) {C : List (Nat × AObj)} (hC : frAt most x C) : FrS most M (fgo most M x).1 (fgo most M x).2 C := s_free I hk hm h12 hx hz (frW_hw hw) hC
theorem drop_sr (I : Inv most K M FL th G) (hk : k < 3) (hm : most < 4294967296) (E : ExT (th k)) (sel : Nat → Bool) (hP : PartAt k thr most (th k) P) (hop : kd (th k).op = .fr) : SR 40 aA M (go most thr sel M (th k)).1 P kA (StQ k thr most (th k) (go most thr sel M (th k)).2.1 (go most thr sel M (th k)).2.2) := by
  have O := (I.ok k hk).op
  obtain ⟨B, C, hB, hC, rfl⟩ := hP
  have EO := E.op
  have fs := @fr_frs most K k M FL th G I hk hm 1 (.inl rfl)
  obtain ⟨held, L, op, ht⟩ : ∃ held L op, th k = ⟨held, L, op⟩ := ⟨_, _, _, rfl⟩
  rw [ht] at hop O hB hC EO fs ⊢
  have hB : LiAt L B := hB
  cases op with
  | dr x =>
    have hC : frAt most x C := hC
    have O : frOk most M 1 x := O
    obtain ⟨C', κ, h1, h2, h3, h4, h5⟩ := fs O (by simp [own, ownO]) EO hC
    have hd : ∀ b ∈ K4, b ∉ C.map (·.1) := fun b hb hm => by
      have := fr_keys hC b hm
      simp only [K4, List.mem_cons, List.not_mem_nil, or_false] at hb
      omega
    generalize hr : fgo most M x = r at *
    obtain ⟨M', o⟩ := r
    cases o with
    | some x' =>
      have e : go most thr sel M ⟨held, L, .dr x⟩ = (M', ⟨held, L, .dr x'⟩, []) := by
        show (match fgo most M x with
          | (M', some x') => (M', (⟨held, L, .dr x'⟩ : Th), ([] : List RefP))
          | (M', none) => (M', ⟨held, L, .no⟩, [])) = _
        rw [hr]
      exact sr_eq e (sr_go hB h1 (low_k6 h2) hd (low_kA h2 h3) (h4 x' rfl) rfl)
    | none =>
      have e : go most thr sel M ⟨held, L, .dr x⟩ = (M', ⟨held, L, .no⟩, []) := by
        show (match fgo most M x with
          | (M', some x') => (M', (⟨held, L, .dr x'⟩ : Th), ([] : List RefP))
          | (M', none) => (M', ⟨held, L, .no⟩, [])) = _
        rw [hr]
      exact sr_eq e (sr_end (t' := ⟨held, L, .no⟩) hB h1 (low_k6 h2) hd (low_kA h2 h3) ⟨rfl, rfl, rfl⟩)
  | _ => cases hop
end
end Go.Proofs.YtofbdgmknfbkfaaGreatDoor.nodesLife
namespace Go.Proofs.YtofbdgmknfbkfaaGreatDoor.nodesLife
open Go Go.Mini
/-! ### a Gone's step, by its line -/
def kG : List Nat := [7, 8, 10, 18]
section
variable {most K thr k : Nat} {M : PM} {FL : List Nat} {th : Nat → Th} {G : List RefP} {P : List (Nat × AObj)}
theorem sr_ex {f : FuncId} {args : List AV} {keep : List Nat} {t t' : Th} {M' : PM} {out : List RefP} (e : go most thr (fun _ => false) M t = (M', t', out)) (h : SR f args M M' P keep (StQ k thr most t t' out)) : SR f args M (go most thr (fun _ => false) M t).1 P keep (fun v P' => ∃ sel, StQ k thr most t (go most thr sel M t).2.1 (go most thr sel M t).2.2 v P') := by
  have h2 : SR f args M M' P keep (fun v P' => ∃ sel, StQ k thr most t (go most thr sel M t).2.1 (go most thr sel M t).2.2 v P') := h.mono (fun _ h => h) (fun v C h => ⟨fun _ => false, by rw [e]; exact h⟩)
  rw [show (go most thr (fun _ => false) M t).1 = M' from by rw [e]]
  exact h2
theorem LiAt.three {L : List Ent} {B : List (Nat × AObj)} (h : LiAt L B) (hL : L ≠ []) : ∃ OH, HadAt OH L ∧ B = [(11, liV (.osl 12 0 L.length 6) (.map 13)), (12, .cells false (entsC L)), (13, OH)] := by
  rcases h with ⟨e, _⟩ | ⟨e, _⟩ | ⟨_, h⟩
  · exact absurd e hL
  · exact absurd e hL
  · exact h
theorem rt_sr (I : Inv most K M FL th G) (hk : k < 3) (hm : most < 4294967296) {l z g b e r : Nat} (hop : (th k).op = .rt l z g b e r) (hP : PartAt k thr most (th k) P) : SR 38 aG M (go most thr (fun _ => false) M (th k)).1 P kG (fun v P' => ∃ sel, StQ k thr most (th k) (go most thr sel M (th k)).2.1 (go most thr sel M (th k)).2.2 v P') := by
  have O := (I.ok k hk).op
  have rO := I.rO k hk
  have nO := I.nO k hk
  have hlen := I.len hk
  obtain ⟨B, C, hB, hC, rfl⟩ := hP
  obtain ⟨held, L, op, ht⟩ : ∃ held L op, th k = ⟨held, L, op⟩ := ⟨_, _, _, rfl⟩
  rw [ht] at hop O hB hC rO nO hlen ⊢
  have hop : op = .rt l z g b e r := hop
  subst hop
  have hB : LiAt L B := hB
  obtain rfl : C = rtB thr most l (Int.ofNat z) g b e r := hC
  have hz : z < 16 := rO z (by simp [own, ownO])
  have hLn : z ∉ L.map Ent.z := fun hm' => by
    have := (List.nodup_append.1 nO).2.1
    exact (List.nodup_append.1 this).2.2 z hm' z (by simp [ownO]) rfl
  have hlen : L.length + held.length ≤ 16 := hlen
  obtain ⟨o1, o2, o3, o4, o5, o6, o7⟩ : g ≤ most ∧ hdr M z = mkw 1 g ∧ 1 ≤ l ∧ l ≤ 6 ∧ b < 18446744073709551616 ∧ e < 18446744073709551616 ∧ r < 18446744073709551616 := O
  have d1 : ∀ b ∈ K4, b ∉ ([18, 19] : List Nat) := by decide
  have n1 : ∀ b ∈ [0, 1, 10, 11, 12, 13], kl [] b = b := by decide
  have n2 : ∀ b ∈ kG, b < 24 ∧ kl [] b = b := by decide
  have hll : l = 1 ∨ l = 2 ∨ l = 3 ∨ l = 4 ∨ l = 5 ∨ l = 6 := by omega
  rcases hll with rfl | rfl | rfl | rfl | rfl | rfl
  · exact sr_ex rfl (sr_go hB s_r1 n1 d1 n2 rfl rfl)
  · exact sr_ex rfl (sr_go hB s_r2 n1 d1 n2 rfl rfl)
  · exact sr_ex rfl (sr_go hB s_r3 n1 d1 n2 rfl rfl)
  · exact sr_ex rfl (sr_go hB s_r4 n1 d1 n2 rfl rfl)
  · exact sr_ex rfl (sr_go hB s_r5 n1 d1 n2 rfl rfl)
  · obtain ⟨B', κ, hB', ⟨l7, l8, l10, l11, l18, l19⟩, hs⟩ := s_r6 (M := M) (thr := thr) (most := most) (th := k) (b := b) (e := e) (r := r) hB hz (show g < 4294967296 by omega) hLn (show L.length < 1000 by omega)
    have hk' : ∀ b ∈ kG, b < 24 ∧ κ b = b := fun b hb => by
      simp only [kG, List.mem_cons, List.not_mem_nil, or_false] at hb
      rcases hb with rfl | rfl | rfl | rfl
      · exact ⟨by decide, l7⟩
      · exact ⟨by decide, l8⟩
      · exact ⟨by decide, l10⟩
      · exact ⟨by decide, l18⟩
    by_cases hd : thr ≤ L.length + 1
    · have e1 : go most thr (fun _ => false) M ⟨held, L, .rt 6 z g b e r⟩ = (M.store (aZ z 0) (mkw 2 g), ⟨held, L ++ [⟨z, g, b, e, r⟩], .sc 0 .s1⟩, []) := by
        show (M.store (aZ z 0) (mkw 2 g), (⟨held, L ++ [⟨z, g, b, e, r⟩], if thr ≤ L.length + 1 then .sc 0 .s1 else .no⟩ : Th), ([] : List RefP)) = _
        rw [if_pos hd]
      rw [decide_eq_true hd] at hs
      refine sr_ex e1 (SR.of hs hk' (.inl ⟨rfl, ⟨B', _, hB', ⟨Int.ofNat z, g, b, e, r, rfl⟩, ?_⟩, rfl, rfl, rfl⟩))
      rfl
    · have e1 : go most thr (fun _ => false) M ⟨held, L, .rt 6 z g b e r⟩ = (M.store (aZ z 0) (mkw 2 g), ⟨held, L ++ [⟨z, g, b, e, r⟩], .no⟩, []) := by
        show (M.store (aZ z 0) (mkw 2 g), (⟨held, L ++ [⟨z, g, b, e, r⟩], if thr ≤ L.length + 1 then .sc 0 .s1 else .no⟩ : Th), ([] : List RefP)) = _
        rw [if_neg hd]
      rw [decide_eq_false hd] at hs
      refine sr_ex e1 (SR.of hs hk' (.inr ⟨rfl, B', [(18, goO thr most .nilPtr), (19, rtO 0 (Int.ofNat z) g b e r)], hB', ?_, rfl, rfl, .inl ⟨rfl, List.mem_cons_self⟩⟩))
      rfl
/-- A step of a scan's part, not the last one. -/
theorem sg_n {held : List RefP} {L : List Ent} {op op' : Op} {M' : PM} {t : TypeId} {D D' B : List (Nat × AObj)} {cs : List AV} {κ : Nat → Nat} {z : Int} {g b e r : Nat} (hB : LiAt L B) (ht : isPart t) (h : SF (stepOf t) aA (.bool false) M M' D D' κ) (hS : (AObj.cells false cs).names (inB KGP) = true) (h2 : cs[2]? = some (.iface t (.ptr 15 0))) (hk : ∀ b ∈ 0 :: 1 :: 7 :: 8 :: KGP, b < 24 ∧ κ b = b) (hd : ∀ b ∈ KG, b ≠ 7 ∧ b ≠ 8 ∧ b ∉ D.map (·.1))
    (ho : opB thr most ⟨held, L, op'⟩ (goB thr most z g b e r ++ ((9, .cells false cs) :: (D' ++ [])))) (hkd : kd op' = kd op) : SR 38 aG M M' ((goB thr most z g b e r ++ ((9, .cells false cs) :: (D ++ []))) ++ gl k B) kG (StQ k thr most ⟨held, L, op⟩ ⟨held, L, op'⟩ []) :=
  SR.of (scn ht h hB (XK.nil (KX := KG) (KP := KGP)) hS h2 (fun _ h => h) (fun b hb => hk b (List.mem_cons_of_mem _ (List.mem_cons_of_mem _ (List.mem_cons_of_mem _ (List.mem_cons_of_mem _ hb))))) ⟨(hk 0 (by decide)).2, (hk 1 (by decide)).2⟩ (by decide) hd) (fun b hb => hk b (by revert b; decide)) (.inl ⟨rfl, ⟨B, _, hB, ho, rfl⟩, rfl, hkd, rfl⟩)
/-- The last one. -/
theorem sg_y {held : List RefP} {L : List Ent} {op op' : Op} {M' : PM} {t : TypeId} {D D' D2 E B : List (Nat × AObj)} {cs cs' : List AV} {κ κ2 : Nat → Nat} {z : Int} {g b e r : Nat} {now : AV} (hB : LiAt L B) (ht : isPart t) (h : SF (stepOf t) aA (.bool true) M M' D D' κ) (hn : SF 102 aN (.tuple []) M' M' ((9, .cells false cs) :: D2) ((9, .cells false cs') :: E) κ2) (h22 : ∀ x ∈ D2, x ∈ D' ++ []) (hS : (AObj.cells false cs).names (inB KGP) = true) (h2 : cs[2]? = some (.iface t (.ptr 15 0))) (hk : ∀ b ∈ 0 :: 1 :: 7 :: 8 :: KGP, b < 24 ∧ κ b = b) (hd : ∀ b ∈ KG, b ≠ 7 ∧ b ≠ 8 ∧ b ∉ D.map (·.1))
    (hk2 : ∀ b ∈ 0 :: 1 :: 7 :: 8 :: KG, b < 24 ∧ κ2 b = b) (hd2 : ∀ b ∈ KY, b ∉ 9 :: D2.map (·.1)) (h2' : cs'[2]? = some now) (hnow : NowOk false now)
    (ho : opB thr most ⟨held, L, op'⟩ (goB thr most z g b e r ++ ((9, .cells false cs') :: E))) (hkd : kd op' = kd op) : SR 38 aG M M' ((goB thr most z g b e r ++ ((9, .cells false cs) :: (D ++ []))) ++ gl k B) kG (StQ k thr most ⟨held, L, op⟩ ⟨held, L, op'⟩ []) :=
  SR.of (scy ht h hn h22 hB (XK.nil (KX := KG) (KP := KGP)) hS h2 (fun _ h => h) (fun b hb => hk b (List.mem_cons_of_mem _ (List.mem_cons_of_mem _ (List.mem_cons_of_mem _ (List.mem_cons_of_mem _ hb))))) ⟨(hk 0 (by decide)).2, (hk 1 (by decide)).2⟩ (by decide) hd
    (fun b hb => hk2 b (List.mem_cons_of_mem _ (List.mem_cons_of_mem _ (List.mem_cons_of_mem _ (List.mem_cons_of_mem _ hb))))) ⟨(hk2 0 (by decide)).2, (hk2 1 (by decide)).2⟩ hd2 h2' hnow) (fun b hb => ⟨(hk b (by revert b; decide)).1, kc_eq (hk b (by revert b; decide)).2 (hk2 b (by revert b; decide)).2⟩) (.inl ⟨rfl, ⟨B, _, hB, ho, rfl⟩, rfl, hkd, rfl⟩)
theorem sc_sr (I : Inv most K M FL th G) (hk : k < 3) (E : ExT (th k)) {y : Nat} {s : Sc} (hs5 : s ≠ .s5) (hop : (th k).op = .sc y s) (hP : PartAt k thr most (th k) P) : SR 38 aG M (go most thr (fun _ => false) M (th k)).1 P kG (fun v P' => ∃ sel, StQ k thr most (th k) (go most thr sel M (th k)).2.1 (go most thr sel M (th k)).2.2 v P') := by
  have O := (I.ok k hk).op
  have hl := I.lt
  have bl := I.con.bl
  have cth := I.con.th
  obtain ⟨B, C, hB, hC, rfl⟩ := hP
  have EO := E.op
  obtain ⟨held, L, op, ht⟩ : ∃ held L op, th k = ⟨held, L, op⟩ := ⟨_, _, _, rfl⟩
  rw [ht] at hop O hB hC EO ⊢
  have hop : op = .sc y s := hop
  subst hop
  have hB : LiAt L B := hB
  have hL : L ≠ [] := EO
  obtain ⟨z, g, b, e, r, rfl⟩ := hC
  have d1 : ∀ b ∈ KG, b ≠ 7 ∧ b ≠ 8 ∧ b ∉ ([15] : List Nat) := by decide
  have d2 : ∀ b ∈ KG, b ≠ 7 ∧ b ≠ 8 ∧ b ∉ ([15, 14] : List Nat) := by decide
  have n1 : ∀ b ∈ 0 :: 1 :: 7 :: 8 :: KGP, b < 24 ∧ kl [] b = b := by decide
  have n2 : ∀ b ∈ 0 :: 1 :: 7 :: 8 :: KG, b < 24 ∧ kl [(15, 24)] b = b := by decide
  have ki : ∀ {i : Nat} {o : Int}, (i : Nat) = i := rfl
  cases s with
  | s5 => exact absurd rfl hs5
  | s1 =>
    obtain ⟨OH, hO, rfl⟩ := hB.three hL
    have h1 := s_l3 (M := M)
    have h2 := s_n1 (M := M.load aPh) (th := k) (most := most) (n := L.length) (hl aPh)
    have hX : XK KG KGP ((9, sc0 most nLd 0 0) :: (goB thr most z g b e r ++ gl k [(11, liV (.osl 12 0 L.length 6) (.map 13)), (12, .cells false (entsC L)), (13, OH)])) := XK.cons rfl rfl ((gy_xk hB).mono (by decide) (by decide))
    have hY : XK [12, 13, 18, 19] KG (goB thr most z g b e r ++ [(12, .cells false (entsC L)), (13, OH)]) := XK.app (gob_xk.mono (by decide) (by decide)) (XK.cons rfl (entsC_names _ _) (XK.cons rfl (raw_any hO.names.2 _) XK.nil))
    have p := part_y (cs := scC most nLd 0 0 .nilSlice .nilSlice .nilSlice) (cs' := scC most nAd (byW (getW M.ms aPh)) L.length .nilSlice .nilSlice .nilSlice) (thr := thr) (most := most) (thr' := thr) (most' := most) (d := false) (now := nAd) (.inl rfl) h1 hX (fun b hb => n1 b (List.mem_cons_of_mem _ (List.mem_cons_of_mem _ (List.mem_cons_of_mem _ (List.mem_cons_of_mem _ hb))))) ⟨rfl, rfl⟩ (by decide) d1 h2 hY (by decide) ⟨rfl, rfl⟩ (by decide) (show ∀ b ∈ ([12, 13, 18, 19] : List Nat), b ≠ 7 ∧ b ≠ 8 ∧ b ∉ ([9, 10, 11, 15] : List Nat) by decide) (fun x hx => by
        simp only [goB, gl, sc0, liO, liV, List.mem_append, List.mem_cons, List.not_mem_nil, or_false] at hx ⊢
        grind) rfl List.mem_cons_self rfl (List.mem_cons_of_mem _ m18) (List.mem_cons_of_mem _ m19) rfl (List.mem_append.2 (.inl List.mem_cons_self)) rfl (.inr ⟨rfl, _, _, rfl⟩) m18 m19 rfl
    have q := StepF.use p (b1 := memP M ++ ((goB thr most z g b e r ++ ((9, scS most L.length y .s1) :: (scD .s1 ++ []))) ++ gl k [(11, liV (.osl 12 0 L.length 6) (.map 13)), (12, .cells false (entsC L)), (13, OH)])) (b2 := memP (M.load aPh) ++ ((goB thr most z g b e r ++ ((9, scS most L.length (byW (getW M.ms aPh)) .v1) :: (scD .v1 ++ []))) ++ gl k [(11, liV (.osl 12 0 L.length 6) (.map 13)), (12, .cells false (entsC L)), (13, OH)])) (sub_app (fun x hx => hx) fun x hx => by
        simp only [goB, gl, scS, scD, List.mem_append, List.mem_cons, List.not_mem_nil, or_false] at hx ⊢
        grind) (sub_app (fun x hx => hx) fun x hx => by
        simp only [goB, gl, scS, scD, sc0, liO, liV, List.mem_append, List.mem_cons, List.not_mem_nil, or_false] at hx ⊢
        grind)
    exact sr_ex rfl (SR.of q (by decide) (.inl ⟨rfl, ⟨_, _, hB, ⟨z, g, b, e, r, rfl⟩, rfl⟩, rfl, rfl, rfl⟩))
  | v1 => exact sr_ex rfl (sg_n (cs := scC most nAd y L.length .nilSlice .nilSlice .nilSlice) hB (.inr (.inl rfl)) s_v1 rfl rfl n1 d1 ⟨z, g, b, e, r, rfl⟩ rfl)
  | v2 e' => exact sr_ex rfl (sg_n (cs := scC most nAd y L.length .nilSlice .nilSlice .nilSlice) hB (.inr (.inl rfl)) (s_v2 bl) rfl rfl n1 d1 ⟨z, g, b, e, r, rfl⟩ rfl)
  | v3 e' i =>
    have O : i ≤ 3 := O
    have h := s_v3 (M := M) (e := e') O (cth i 3)
    by_cases hi : i = 3
    · subst hi
      exact sr_ex rfl (sg_n (cs := scC most nAd y L.length .nilSlice .nilSlice .nilSlice) hB (.inr (.inl rfl)) h rfl rfl n1 d1 ⟨z, g, b, e, r, rfl⟩ rfl)
    · rw [if_neg hi] at h
      have e1 : go most thr (fun _ => false) M ⟨held, L, .sc y (.v3 e' i)⟩ = (M.load (aTh i 3), ⟨held, L, .sc y (.v3 e' (i + 1))⟩, []) := by
        show (M.load (aTh i 3), (⟨held, L, .sc y (if i = 3 then .v4 e' else .v3 e' (i + 1))⟩ : Th), ([] : List RefP)) = _
        rw [if_neg hi]
      exact sr_ex e1 (sg_n (cs := scC most nAd y L.length .nilSlice .nilSlice .nilSlice) hB (.inr (.inl rfl)) h rfl rfl n1 d1 ⟨z, g, b, e, r, rfl⟩ rfl)
  | v4 e' => exact sr_ex rfl (sg_y (cs := scC most nAd y L.length .nilSlice .nilSlice .nilSlice) (cs' := scC most nBu y L.length .nilSlice .nilSlice .nilSlice) (now := nBu) hB (.inr (.inl rfl)) s_v4 s_n2 (fun x hx => List.mem_append.2 (.inl hx)) rfl rfl n1 d1 n2 (show ∀ b ∈ KY, b ∉ ([9, 15] : List Nat) by decide) rfl (.inr ⟨rfl, _, _, rfl⟩) ⟨z, g, b, e, r, rfl⟩ rfl)
  | w1 => exact sr_ex rfl (sg_n (cs := scC most nBu y L.length .nilSlice .nilSlice .nilSlice) hB (.inr (.inr (.inl rfl))) s_w1 rfl rfl n1 d1 ⟨z, g, b, e, r, rfl⟩ rfl)
  | w2 e' => exact sr_ex rfl (sg_y (cs := scC most nBu y L.length .nilSlice .nilSlice .nilSlice) (cs' := scC most nTk y L.length .nilSlice .nilSlice .nilSlice) (now := nTk) hB (.inr (.inr (.inl rfl))) s_w2 s_n3 (fun x hx => List.mem_append.2 (.inl hx)) rfl rfl n1 d1 n2 (show ∀ b ∈ KY, b ∉ ([9, 15] : List Nat) by decide) rfl (.inr ⟨rfl, _, _, rfl⟩) ⟨z, g, b, e, r, rfl⟩ rfl)
  | t1 => exact sr_ex rfl (sg_n (cs := scC most nTk y L.length .nilSlice .nilSlice .nilSlice) hB (.inr (.inr (.inr (.inl rfl)))) (s_t1 bl) rfl rfl (by decide) d1 ⟨z, g, b, e, r, rfl⟩ rfl)
  | t2 i =>
    have O : i ≤ 3 := O
    have h := s_t2 (M := M) O (cth i 0)
    by_cases hi : i = 3
    · subst hi
      exact sr_ex rfl (sg_y (cs := scC most nTk y L.length .nilSlice .nilSlice .nilSlice) (cs' := scC most nLd y L.length sN .nilSlice .nilSlice) (now := nLd) hB (.inr (.inr (.inr (.inl rfl)))) h s_n4 (fun x hx => List.mem_append.2 (.inl hx)) rfl rfl n1 d2 (by decide) (show ∀ b ∈ KY, b ∉ ([9, 15, 14] : List Nat) by decide) rfl (.inr ⟨rfl, _, _, rfl⟩) ⟨z, g, b, e, r, rfl⟩ rfl)
    · rw [if_neg hi, decide_eq_false hi] at h
      have e1 : go most thr (fun _ => false) M ⟨held, L, .sc y (.t2 i)⟩ = (M.load (aTh i 0), ⟨held, L, .sc y (.t2 (i + 1))⟩, []) := by
        show (M.load (aTh i 0), (⟨held, L, .sc y (if i = 3 then .s5 else .t2 (i + 1))⟩ : Th), ([] : List RefP)) = _
        rw [if_neg hi]
      exact sr_ex e1 (sg_n (cs := scC most nTk y L.length .nilSlice .nilSlice .nilSlice) hB (.inr (.inr (.inr (.inl rfl)))) h rfl rfl n1 d2 ⟨z, g, b, e, r, rfl⟩ rfl)
end
end Go.Proofs.YtofbdgmknfbkfaaGreatDoor.nodesLife
namespace Go.Proofs.YtofbdgmknfbkfaaGreatDoor.nodesLife
open Go Go.Mini
/-! ### a Gone's sweep, and its Frees -/
section
variable {most K thr k : Nat} {M : PM} {FL : List Nat} {th : Nat → Th} {G : List RefP} {P : List (Nat × AObj)}
theorem s5_sr (I : Inv most K M FL th G) (hk : k < 3) (E : ExT (th k)) {y : Nat} (hop : (th k).op = .sc y .s5) (hP : PartAt k thr most (th k) P) : SR 38 aG M (go most thr (fun _ => false) M (th k)).1 P kG (fun v P' => ∃ sel, StQ k thr most (th k) (go most thr sel M (th k)).2.1 (go most thr sel M (th k)).2.2 v P') := by
  have hl := I.lt
  have rO := I.rO k hk
  have nO := I.nO k hk
  have hlen := I.len hk
  obtain ⟨B, C, hB, hC, rfl⟩ := hP
  have EO := E.op
  have hE := E.e
  obtain ⟨held, L, op, ht⟩ : ∃ held L op, th k = ⟨held, L, op⟩ := ⟨_, _, _, rfl⟩
  rw [ht] at hop hB hC EO hE rO nO hlen ⊢
  have hop : op = .sc y .s5 := hop
  subst hop
  have hB : LiAt L B := hB
  have hL : L ≠ [] := EO
  have hlen : L.length + held.length ≤ 16 := hlen
  obtain ⟨z, g, b, e, r, rfl⟩ := hC
  obtain ⟨OH, hO, rfl⟩ := hB.three hL
  have hz : ∀ e ∈ L, e.z < 16 := fun e he => rO e.z (by
    simp only [own, List.mem_append, List.mem_map]
    exact .inr (.inl ⟨e, he, rfl⟩))
  have hn : (L.map Ent.z).Nodup := (List.nodup_append.1 (List.nodup_append.1 nO).2.1).1
  intro s π A
  obtain ⟨p, hp⟩ : ∃ p : SwP, p = ⟨k, thr, most, y, getW M.ms aEp, z, g, b, e, r⟩ := ⟨_, rfl⟩
  have hsub : ∀ x ∈ sw1 p L M OH, x ∈ memP M ++ ((goB thr most z g b e r ++ ((9, scS most L.length y .s5) :: (scD .s5 ++ []))) ++ gl k [(11, liV (.osl 12 0 L.length 6) (.map 13)), (12, .cells false (entsC L)), (13, OH)]) := fun x hx => by
    rw [hp] at hx
    simp only [sw1, S9, li3, goB, gl, scS, scD, List.mem_append, List.mem_cons, List.not_mem_nil, or_false] at hx ⊢
    grind
  obtain ⟨vs, O', s', π', h1, h2, h3, h4⟩ := s5_at hL (show L.length < 1000 by omega) hO (by rw [hp]) (by rw [hp]; exact hl aEp) hE hz hn (A.sub hsub)
  have hg : ∀ sel, go most thr sel M ⟨held, L, .sc y .s5⟩ = (M.load aEp, ⟨held, pick (fun i => !sel i) 0 L, nextF y (pick sel 0 L) []⟩, []) := fun sel => rfl
  rw [hg]
  have hK : ∀ b ∈ kG, b < 24 ∧ kc (fun c => c) kZ b = b := by decide
  have lB := liB_at h1
  have hq : ∀ bs', (∀ x ∈ bs', x ∈ aft p L.length (pick (selV vs) 0 L) ++ rst p (pick (fun k => !selV vs k) 0 L) O') → (∃ sel, StQ k thr most ⟨held, L, .sc y .s5⟩ (go most thr sel M ⟨held, L, .sc y .s5⟩).2.1 (go most thr sel M ⟨held, L, .sc y .s5⟩).2.2 (.bool (isE (pick (selV vs) 0 L))) bs') → _ := fun bs' hb hQ =>
    (⟨s', π', .bool (isE (pick (selV vs) 0 L)), bs', kc (fun c => c) kZ, hQ, hK, h2, h3.sub (sub_app (fun x hx => hx) hb), h4.keys (fun x hx => ⟨x, sub_app (fun x hx => hx) hb x hx, rfl⟩) (fun x hx => ⟨x, hsub x hx, rfl⟩)⟩ : ∃ (s' : AS) (π' : Nat → Nat) (v : AV) (bs' : List (Nat × AObj)) (κ : Nat → Nat), (∃ sel, StQ k thr most ⟨held, L, .sc y .s5⟩ (go most thr sel M ⟨held, L, .sc y .s5⟩).2.1 (go most thr sel M ⟨held, L, .sc y .s5⟩).2.2 v bs') ∧ (∀ b ∈ kG, b < 24 ∧ κ b = b) ∧ Sound Tryz.prog (.call 38 (rens π aG) s) ⟨.ret, [v.ren π'], s'⟩ ∧ At Tryz.prog (memP (M.load aEp) ++ bs') GF s' π' ∧ Moved 24 _ (memP (M.load aEp) ++ bs') π π' κ s s')
  cases ho : pick (selV vs) 0 L with
  | nil =>
    refine hq (([(18, goO thr most (.ptr 9 0)), (19, rtO 0 z g b e r), (9, scO most .nilIface y L.length sN .nilSlice .nilSlice)]) ++ gl k (liB (pick (fun k => !selV vs k) 0 L) O')) (fun x hx => ?_) ⟨selV vs, .inr ⟨by rw [ho]; rfl, _, _, ?_, rfl, ?_⟩⟩
    · rw [ho, hp]
      simp only [aft, rst, gl, List.mem_append, List.mem_cons, List.not_mem_nil, or_false] at hx ⊢
      grind
    · rw [hg]
      exact lB
    · rw [hg, ho]
      exact ⟨rfl, rfl, .inr (.inl ⟨rfl, y, L.length, by simp, by simp⟩)⟩
  | cons e1 l =>
    refine hq ((goB thr most z g b e r ++ ((9, scO most nFr y L.length sN (.slice 20 6 l.length l.length) (.osl 21 0 1 3)) :: (fH 1 (Int.ofNat e1.z) 0 false most ++ [(20, .cells false (entsC (e1 :: l))), (21, .cells false (refsC [e1.ref]))]))) ++ gl k (liB (pick (fun k => !selV vs k) 0 L) O')) (fun x hx => ?_) ⟨selV vs, .inl ⟨by rw [ho]; rfl, ?_, by rw [hg], by rw [hg, ho]; rfl, by rw [hg]⟩⟩
    · rw [ho, hp]
      simp only [aft, rst, gl, goB, fH, List.mem_append, List.mem_cons, List.not_mem_nil, or_false] at hx ⊢
      grind
    · rw [hg, ho]
      exact ⟨_, _, lB, ⟨z, g, b, e, r, L.length, 6, entsC (e1 :: l), fH 1 (Int.ofNat e1.z) 0 false most, rfl, rfl, rfl, entsC_names _ _⟩, rfl⟩
theorem frz_sr (I : Inv most K M FL th G) (hk : k < 3) (hm : most < 4294967296) (E : ExT (th k)) {y : Nat} {x : Fr} {goes : List Ent} {freed : List RefP} (hop : (th k).op = .fr y x goes freed) (hP : PartAt k thr most (th k) P) : SR 38 aG M (go most thr (fun _ => false) M (th k)).1 P kG (fun v P' => ∃ sel, StQ k thr most (th k) (go most thr sel M (th k)).2.1 (go most thr sel M (th k)).2.2 v P') := by
  have O := (I.ok k hk).op
  have rO := I.rO k hk
  obtain ⟨B, C, hB, hC, rfl⟩ := hP
  have EO := E.op
  have fs := @fr_frs most K k M FL th G I hk hm 2 (.inr rfl)
  obtain ⟨held, L, op, ht⟩ : ∃ held L op, th k = ⟨held, L, op⟩ := ⟨_, _, _, rfl⟩
  rw [ht] at hop O hB hC EO fs rO ⊢
  have hop : op = .fr y x goes freed := hop
  subst hop
  have hB : LiAt L B := hB
  obtain ⟨ew, e0, e16⟩ : frW x ∧ freed ≠ [] ∧ freed.length + goes.length ≤ 16 := EO
  obtain ⟨z, g, b, e, r, m, o, R, D, rfl, hD, hR⟩ := hC
  obtain ⟨o1, _⟩ : frOk most M 2 x ∧ _ := O
  obtain ⟨D', κ, h1, h2, h3, h4, h5⟩ := fs o1 (by simp [own, ownO]) ew hD
  have hW0 : XK [20, 21] [20, 21] [(20, AObj.cells false R), (21, .cells false (refsC freed))] := XK.cons rfl (raw_any (show (AObj.cells false R).names (fun _ => false) = true from hR.2) _) (XK.cons rfl (refsC_names _ _) XK.nil)
  have hW : XK KF KFP [(20, AObj.cells false R), (21, .cells false (refsC freed))] := hW0.mono (by decide) (by decide)
  have hd : ∀ b ∈ KF, b ≠ 7 ∧ b ≠ 8 ∧ b ∉ D.map (·.1) := fun b hb => by
    refine ⟨by revert b; decide, by revert b; decide, fun hm => ?_⟩
    have := fr_keys hD b hm
    simp only [KF, List.mem_cons, List.not_mem_nil, or_false] at hb
    omega
  have hkk : ∀ b ∈ kG, b < 24 ∧ κ b = b := fun b hb => by
    simp only [kG, List.mem_cons, List.not_mem_nil, or_false] at hb
    exact ⟨by omega, h2 b (by omega)⟩
  have e2 : ∀ r, fgo most M x = r → go most thr (fun _ => false) M ⟨held, L, .fr y x goes freed⟩ = (match r with
      | (M', some x') => (M', (⟨held, L, .fr y x' goes freed⟩ : Th), ([] : List RefP))
      | (M', none) => (M', ⟨held, L, nextF y goes freed⟩, if goes = [] then freed else [])) := fun r hr => by
    subst hr
    rfl
  generalize hr : fgo most M x = r at *
  obtain ⟨M', o'⟩ := r
  have e3 := e2 _ rfl
  cases o' with
  | some x' => exact sr_ex e3 (SR.of (scn (cs := scC most nFr y m sN (.slice 20 o goes.length goes.length) (.osl 21 0 freed.length 3)) (.inr (.inr (.inr (.inr rfl)))) h1 hB hW rfl rfl (by decide) (low_kF h2 h3) (low_01 h2) (by decide) hd) hkk (.inl ⟨rfl, ⟨B, _, hB, ⟨z, g, b, e, r, m, o, R, D', rfl, h4 x' rfl, hR⟩, rfl⟩, rfl, rfl, rfl⟩))
  | none =>
    obtain ⟨z2, d, got, ob, rfl, hd2, hw1, hw2⟩ := h5 rfl
    have kk : ∀ {κ2 : Nat → Nat}, (∀ b ∈ kG, κ2 b = b) → ∀ b ∈ kG, b < 24 ∧ kc κ κ2 b = b := fun h b hb => ⟨(hkk b hb).1, kc_eq (hkk b hb).2 (h b hb)⟩
    cases goes with
    | nil =>
      have hn0 : SF 102 aN (.tuple []) M' M' [(9, scO most nFr y m sN (.slice 20 o 0 0) (.osl 21 0 freed.length 3)), (15, frO z2 d 0 got)] [(9, scO most .nilIface y m sN (.slice 20 o 0 0) (.osl 21 0 freed.length 3))] (kl []) := stp (k_e0 (M := M') (O := mapO M'.ms) (most := most) (y := y) (m := m) (got := got) (k := freed.length) (o := o) (z2 := z2) hd2) (vb_ok rfl trivial) rfl
      have hn := SF.fr hn0 hW0 (by decide) ⟨rfl, rfl⟩ (fun _ h => h) (show ∀ b ∈ ([20, 21] : List Nat), b ≠ 7 ∧ b ≠ 8 ∧ b ∉ ([9, 15] : List Nat) by decide)
      have p := scy (cs := scC most nFr y m sN (.slice 20 o 0 0) (.osl 21 0 freed.length 3)) (cs' := scC most .nilIface y m sN (.slice 20 o 0 0) (.osl 21 0 freed.length 3)) (D2 := [(15, frO z2 d 0 got), (20, .cells false R), (21, .cells false (refsC freed))]) (E := [(20, .cells false R), (21, .cells false (refsC freed))]) (thr := thr) (most := most) (z := z) (g := g) (b := b) (e := e) (r := r) (k := k) (d := true) (now := .nilIface) (.inr (.inr (.inr (.inr rfl)))) h1 hn (fun x hx => by
        simp only [List.mem_append, List.mem_cons, List.not_mem_nil, or_false] at hx ⊢
        grind) hB hW rfl rfl (by decide) (low_kF h2 h3) (low_01 h2) (by decide) hd (by decide) ⟨rfl, rfl⟩ (show ∀ b ∈ KY, b ∉ ([9, 15, 20, 21] : List Nat) by decide) rfl (.inl ⟨rfl, rfl⟩)
      refine sr_ex e3 (SR.of p (kk (by decide)) (.inr ⟨rfl, B, _, hB, rfl, rfl, rfl, .inr (.inr ⟨e0, ?_, y, m, o, ?_, ?_, ?_⟩)⟩))
      · show freed.length ≤ 16
        simpa using e16
      · exact List.mem_append.2 (.inl List.mem_cons_self)
      · exact List.mem_append.2 (.inr List.mem_cons_self)
      · exact List.mem_append.2 (.inr (List.mem_cons_of_mem _ (List.mem_cons_of_mem _ List.mem_cons_self)))
    | cons e1 l =>
      have hz1 : e1.z < 16 := rO e1.z (by simp [own, ownO])
      have hn := e_nx (most := most) (y := y) (m := m) (got := got) (z2 := z2) (F := freed) hd2 hR hz1 rfl (show freed.length < 16777216 by omega) M'
      have p := scy (cs := scC most nFr y m sN (.slice 20 o (l.length + 1) (l.length + 1)) (.osl 21 0 freed.length 3)) (cs' := scC most nFr y m sN (.slice 20 (o + 6) l.length l.length) (.osl 21 0 (freed.length + 1) 3)) (D2 := [(15, frO z2 d 0 got), (20, .cells false R), (21, .cells false (refsC freed))]) (E := [(15, frO (Int.ofNat e1.z) hdrI 1 0), (16, hdO (Int.ofNat e1.z) nfF 0 false 0), (17, moO most), (20, AObj.cells false R), (21, AObj.cells false (refsC (freed ++ [e1.ref])))]) (thr := thr) (most := most) (z := z) (g := g) (b := b) (e := e) (r := r) (k := k) (d := false) (now := nFr) (.inr (.inr (.inr (.inr rfl)))) h1 hn (fun x hx => by
        simp only [List.mem_append, List.mem_cons, List.not_mem_nil, or_false] at hx ⊢
        grind) hB hW rfl rfl (by decide) (low_kF h2 h3) (low_01 h2) (by decide) hd (by decide) ⟨rfl, rfl⟩ (show ∀ b ∈ KY, b ∉ ([9, 15, 20, 21] : List Nat) by decide) rfl (.inr ⟨rfl, _, _, rfl⟩)
      refine sr_ex e3 (SR.of p (kk (by decide)) (.inl ⟨rfl, ⟨B, _, hB, ⟨z, g, b, e, r, m, o + 6, R, fH 1 (Int.ofNat e1.z) 0 false most, ?_, rfl, hR.tl⟩, rfl⟩, rfl, rfl, rfl⟩))
      rw [List.length_append]
      rfl
end
end Go.Proofs.YtofbdgmknfbkfaaGreatDoor.nodesLife
