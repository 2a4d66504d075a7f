/- The law BoundsLook answers true, for all arguments. Conditions: those that each theorem names, and no others. -/
import Derived.Test.YtipadnlhcnmgaaaDoorLook13
import Derived.Test.YtipadnlhcnmgaaaDoorMini2
namespace Go.Proofs.YtipadnlhcnmgaaaDoor.boundsLook
open Go Go.Mini
theorem relenB {P : Program} {f : FuncId} {args : List AV} {e : AExit} {v : AV} {bs : List (Nat × AObj)} {len nx : Nat} {s1 : AS} (h : Sound P (.call f args ⟨⟨bs, len, none, []⟩, nx⟩) ⟨e, [v], s1⟩) (len' nx' : Nat) (hn : nx' ≤ nx) :
    ∃ s2, Sound P (.call f args ⟨⟨bs, len', none, []⟩, nx'⟩) ⟨e, [v], s2⟩ := by
  refine ⟨⟨⟨s1.h.bs, len' + (s1.h.len - len), s1.h.esc, s1.h.wr⟩, s1.nx⟩, Sound.skip (n := nx) ?_ hn⟩
  intro B ρ cargs w R hc
  have R' : Rel P B ρ ⟨⟨bs, len, none, []⟩, nx⟩ w := R.congr (fun _ => rfl) rfl rfl
  refine Calls.mono (h B ρ cargs w R' hc) fun en w1 hr => ?_
  obtain ⟨v', u, ρ1, e1, e2, e3, hp⟩ := hr
  refine ⟨v', u, ρ1, e1, e2, e3, ⟨hp.rel.congr (fun _ => rfl) rfl rfl, hp.ext, hp.unt, ⟨hp.shape.nx, ?_, hp.shape.log⟩, hp.size⟩⟩
  obtain ⟨ks, h1, h2, h3⟩ := hp.shape.keys
  refine ⟨ks, h1, ?_, h3⟩
  have h2' : s1.h.len = len + ks.length := h2
  show len' + (s1.h.len - len) = len' + ks.length
  omega
theorem bl_law (l : Lk) (xh xe xt : AV) (Lh : List Nat) (Le : List En) (Lt : List Th) (nh ne nt : Nat) (rest : List (Nat × AObj)) (r0 : Bool) (h0 : getB rest 0 = some (.cells r0 wf))
    (hw : ∀ k, wdL Lh k < 18446744073709551616) (lenh : ∀ s, lenA Tryd.prog s 27 xh = some (.int .i64 (Int.ofNat nh))) (lene : ∀ s, lenA Tryd.prog s 28 xe = some (.int .i64 (Int.ofNat ne))) (lent : ∀ s, lenA Tryd.prog s 29 xt = some (.int .i64 (Int.ofNat nt)))
    (ph : nh ≤ 60 → Pk 27 24 1 wcellB rest xh nh (fun k => .int .u64 (Int.ofNat (wdL Lh k))) Lh) (pe : ne ≤ 60 → Pk 28 97 6 enC rest xe ne (fun k => .agg (enC (enL Le k))) Le) (pt : nt ≤ 60 → Pk 29 101 10 thC rest xt nt (fun k => .agg (thC (thL Lt k))) Lt) :
    ∃ e s1, Sound Tryd.prog (.call 3 [.agg (lkC l xh xe xt)] ⟨⟨rest, 5, none, []⟩, 5⟩) ⟨e, [.bool true], s1⟩ := by
  have lv : ∀ (x : List AV) (len nx : Nat), Sound Tryd.prog (.call 9 [] ⟨⟨(5, .cells false x) :: rest, len, none, []⟩, nx⟩) ⟨.ret, [.bool true], ⟨⟨(5, .cells false x) :: rest, len, none, []⟩, nx⟩⟩ := fun x len nx => lives35_call _ (hasG_ofB (r0 := r0) h0)
  by_cases b1 : nh ≤ 60
  case neg => exact ⟨_, _, runX_sound mixed none_sound (bl_1 l xh xe xt [] [] [] nh ne nt 0 0 0 false rest) ⟨lenh _, len_Q _ b1, lv _ _ _, trivial⟩⟩
  by_cases b2 : ne ≤ 60
  case neg => exact ⟨_, _, runX_sound mixed none_sound (bl_2 l xh xe xt [] [] [] nh ne nt 0 0 0 false rest) ⟨lenh _, len_q _ b1, lene _, len_Q _ b2, lv _ _ _, trivial⟩⟩
  by_cases b3 : nt ≤ 60
  case neg => exact ⟨_, _, runX_sound mixed none_sound (bl_3 l xh xe xt [] [] [] nh ne nt 0 0 0 false rest) ⟨lenh _, len_q _ b1, lene _, len_q _ b2, lent _, len_Q _ b3, lv _ _ _, trivial⟩⟩
  obtain ⟨H, bh, ch, rh, rfl, lh, fh, gh, yh, oh, ah⟩ := ph b1
  obtain ⟨E, be, ce, re, rfl, le, fe, ge, ye, oe, ae⟩ := pe b2
  obtain ⟨T, bt, ct, rt, rfl, lt, ft, gt, yt, ot, at_⟩ := pt b3
  rcases ah with ah | ah <;> rcases ae with ae | ae <;> rcases at_ with at_ | at_
  · exact bl_case000 l Lh Le Lt nh ne nt rest r0 h0 hw b1 b2 b3 H E T bh be bt ch ce ct rh re rt fh fe ft lh le lt gh ge gt yh ye yt oh oe ot ah ae at_
  · exact bl_case001 l Lh Le Lt nh ne nt rest r0 h0 hw b1 b2 b3 H E T bh be bt ch ce ct rh re rt fh fe ft lh le lt gh ge gt yh ye yt oh oe ot ah ae at_
  · exact bl_case010 l Lh Le Lt nh ne nt rest r0 h0 hw b1 b2 b3 H E T bh be bt ch ce ct rh re rt fh fe ft lh le lt gh ge gt yh ye yt oh oe ot ah ae at_
  · exact bl_case011 l Lh Le Lt nh ne nt rest r0 h0 hw b1 b2 b3 H E T bh be bt ch ce ct rh re rt fh fe ft lh le lt gh ge gt yh ye yt oh oe ot ah ae at_
  · exact bl_case100 l Lh Le Lt nh ne nt rest r0 h0 hw b1 b2 b3 H E T bh be bt ch ce ct rh re rt fh fe ft lh le lt gh ge gt yh ye yt oh oe ot ah ae at_
  · exact bl_case101 l Lh Le Lt nh ne nt rest r0 h0 hw b1 b2 b3 H E T bh be bt ch ce ct rh re rt fh fe ft lh le lt gh ge gt yh ye yt oh oe ot ah ae at_
  · exact bl_case110 l Lh Le Lt nh ne nt rest r0 h0 hw b1 b2 b3 H E T bh be bt ch ce ct rh re rt fh fe ft lh le lt gh ge gt yh ye yt oh oe ot ah ae at_
  · exact bl_case111 l Lh Le Lt nh ne nt rest r0 h0 hw b1 b2 b3 H E T bh be bt ch ce ct rh re rt fh fe ft lh le lt gh ge gt yh ye yt oh oe ot ah ae at_
theorem r27B : rowT Tryd.prog 27 27 1 = true := by kernel_rfl
theorem r28B : rowT Tryd.prog 28 28 6 = true := by kernel_rfl
theorem r29B : rowT Tryd.prog 29 29 10 = true := by kernel_rfl
theorem young_lo (b o n c : Nat) (h : b < 5) : AV.young 6 (.slice b o n c) = false := by
  show Nat.ble 7 b = false
  cases hq : Nat.ble 7 b with
  | false => rfl
  | true => have := Nat.le_of_ble_eq_true hq; omega
theorem pkH_s (rest : List (Nat × AObj)) (L : List Nat) (n c b : Nat) (hb : b < 5) (hg : getB rest b = some (.cells true (rowsOf wcellB L))) (h : n ≤ L.length) (hs : n ≤ 60) : Pk 27 24 1 wcellB rest (.slice b 0 n c) n (fun k => .int .u64 (Int.ofNat (wdL L k))) L := by
  refine ⟨fun b => .slice b 0 n c, b, rowsOf wcellB L, true, rfl, hb, famH_s L n c h (by omega), hg, young_lo b 0 n c hb, rfl, ?_⟩
  by_cases hn : n = 0
  · subst hn
    exact .inl ⟨rfl, fun s gs => app_zero r27B ((gs b hb).trans hg)⟩
  · exact .inr ⟨by omega, h, fun s gs => app_row r27B (fun _ => rfl) (fun _ => rfl) ((gs b hb).trans hg) (by omega) h (by omega)⟩
theorem pkH_n (rest : List (Nat × AObj)) (r0 : Bool) (h0 : getB rest 0 = some (.cells r0 wf)) (L : List Nat) : Pk 27 24 1 wcellB rest .nilSlice 0 (fun k => .int .u64 (Int.ofNat (wdL L k))) L :=
  ⟨fun _ => .nilSlice, 0, wf, r0, rfl, by decide, fam_nil t27B wf (by kernel_rfl) _, h0, rfl, rfl, .inl ⟨rfl, fun s _ => app_nn r27B⟩⟩
theorem lenH_s (s : AS) (b n c : Nat) : lenA Tryd.prog s 27 (.slice b 0 n c) = some (.int .i64 (Int.ofNat n)) := by simp only [lenA, t27B]; rfl
theorem lenH_n (s : AS) : lenA Tryd.prog s 27 .nilSlice = some (.int .i64 (Int.ofNat 0)) := by simp only [lenA, t27B]; rfl
theorem pkE_s (rest : List (Nat × AObj)) (L : List En) (n c b : Nat) (hb : b < 5) (hg : getB rest b = some (.cells true (rowsOf enC L))) (h : n ≤ L.length) (hs : n ≤ 60) : Pk 28 97 6 enC rest (.slice b 0 n c) n (fun k => .agg (enC (enL L k))) L := by
  refine ⟨fun b => .slice b 0 n c, b, rowsOf enC L, true, rfl, hb, famE_s L n c h (by omega), hg, young_lo b 0 n c hb, rfl, ?_⟩
  by_cases hn : n = 0
  · subst hn
    exact .inl ⟨rfl, fun s gs => app_zero r28B ((gs b hb).trans hg)⟩
  · exact .inr ⟨by omega, h, fun s gs => app_row r28B (fun _ => rfl) (fun _ => rfl) ((gs b hb).trans hg) (by omega) h (by omega)⟩
theorem pkE_n (rest : List (Nat × AObj)) (r0 : Bool) (h0 : getB rest 0 = some (.cells r0 wf)) (L : List En) : Pk 28 97 6 enC rest .nilSlice 0 (fun k => .agg (enC (enL L k))) L :=
  ⟨fun _ => .nilSlice, 0, wf, r0, rfl, by decide, fam_nil t28B wf (by kernel_rfl) _, h0, rfl, rfl, .inl ⟨rfl, fun s _ => app_nn r28B⟩⟩
theorem lenE_s (s : AS) (b n c : Nat) : lenA Tryd.prog s 28 (.slice b 0 n c) = some (.int .i64 (Int.ofNat n)) := by simp only [lenA, t28B]; rfl
theorem lenE_n (s : AS) : lenA Tryd.prog s 28 .nilSlice = some (.int .i64 (Int.ofNat 0)) := by simp only [lenA, t28B]; rfl
theorem pkT_s (rest : List (Nat × AObj)) (L : List Th) (n c b : Nat) (hb : b < 5) (hg : getB rest b = some (.cells true (rowsOf thC L))) (h : n ≤ L.length) (hs : n ≤ 60) : Pk 29 101 10 thC rest (.slice b 0 n c) n (fun k => .agg (thC (thL L k))) L := by
  refine ⟨fun b => .slice b 0 n c, b, rowsOf thC L, true, rfl, hb, famT_s L n c h (by omega), hg, young_lo b 0 n c hb, rfl, ?_⟩
  by_cases hn : n = 0
  · subst hn
    exact .inl ⟨rfl, fun s gs => app_zero r29B ((gs b hb).trans hg)⟩
  · exact .inr ⟨by omega, h, fun s gs => app_row r29B (fun _ => rfl) (fun _ => rfl) ((gs b hb).trans hg) (by omega) h (by omega)⟩
theorem pkT_n (rest : List (Nat × AObj)) (r0 : Bool) (h0 : getB rest 0 = some (.cells r0 wf)) (L : List Th) : Pk 29 101 10 thC rest .nilSlice 0 (fun k => .agg (thC (thL L k))) L :=
  ⟨fun _ => .nilSlice, 0, wf, r0, rfl, by decide, fam_nil t29 wf (by kernel_rfl) _, h0, rfl, rfl, .inl ⟨rfl, fun s _ => app_nn r29B⟩⟩
theorem lenT_s (s : AS) (b n c : Nat) : lenA Tryd.prog s 29 (.slice b 0 n c) = some (.int .i64 (Int.ofNat n)) := by simp only [lenA, t29]; rfl
theorem lenT_n (s : AS) : lenA Tryd.prog s 29 .nilSlice = some (.int .i64 (Int.ofNat 0)) := by simp only [lenA, t29]; rfl
def whK : List Kc := [.int .u64]
def enK : List Kc := [.int .i64, .int .u32, .bool, .int .u64, .int .u64, .int .u64]
def thK : List Kc := [.int .u64, .int .u64, .int .u64, .int .u64, .int .u64, .int .u64, .int .u64, .int .u64, .int .u64, .int .u64]
theorem rows_wh : ∀ (rows : List (List SD)), Tyss rows whK → ∃ L : List Nat, (∀ s : AS, absRows rows s = (rowsOf wcellB L, s)) ∧ L.length = rows.length ∧ ∀ x ∈ L, x < 18446744073709551616
  | [], _ => ⟨[], fun _ => rfl, rfl, by simp⟩
  | r :: rs, h => by
    obtain ⟨h1, h2⟩ := h
    obtain ⟨L, e1, e2, e3⟩ := rows_wh rs h2
    match r, h1 with
    | [x0], ⟨k0, _⟩ =>
      cases x0 <;> simp only [Ty] at k0
      obtain ⟨rfl, w0⟩ := k0
      rename_i n0
      have c0 := bounds_u64 w0
      have e0n : Int.ofNat n0.toNat = n0 := by simp only [Int.ofNat_eq_natCast]; omega
      refine ⟨(n0.toNat) :: L, fun s => ?_, by simp [e2], fun x hx => ?_⟩
      · show ((absCs [.i .u64 n0] s).1 ++ (absRows rs (absCs [.i .u64 n0] s).2).1, (absRows rs (absCs [.i .u64 n0] s).2).2) = _
        have e4 : absCs [.i .u64 n0] s = (wcellB (n0.toNat), s) := by
          simp only [absCs, absC, wcellB, e0n]
        rw [e4]
        simp only [e1]
        rfl
      · rcases List.mem_cons.1 hx with rfl | hx
        · omega
        · exact e3 x hx
theorem rows_en : ∀ (rows : List (List SD)), Tyss rows enK → ∃ L : List En, (∀ s : AS, absRows rows s = (rowsOf enC L, s)) ∧ L.length = rows.length
  | [], _ => ⟨[], fun _ => rfl, rfl⟩
  | r :: rs, h => by
    obtain ⟨h1, h2⟩ := h
    obtain ⟨L, e1, e2⟩ := rows_en rs h2
    match r, h1 with
    | [x0, x1, x2, x3, x4, x5], ⟨k0, k1, k2, k3, k4, k5, _⟩ =>
      cases x0 <;> simp only [Ty] at k0
      cases x1 <;> simp only [Ty] at k1
      cases x2 <;> simp only [Ty] at k2
      cases x3 <;> simp only [Ty] at k3
      cases x4 <;> simp only [Ty] at k4
      cases x5 <;> simp only [Ty] at k5
      obtain ⟨rfl, w0⟩ := k0
      obtain ⟨rfl, w1⟩ := k1
      obtain ⟨rfl, w3⟩ := k3
      obtain ⟨rfl, w4⟩ := k4
      obtain ⟨rfl, w5⟩ := k5
      rename_i n0 n1 n2 n3 n4 n5
      have c1 := bounds_u32 w1
      have e1n : Int.ofNat n1.toNat = n1 := by simp only [Int.ofNat_eq_natCast]; omega
      have c3 := bounds_u64 w3
      have e3n : Int.ofNat n3.toNat = n3 := by simp only [Int.ofNat_eq_natCast]; omega
      have c4 := bounds_u64 w4
      have e4n : Int.ofNat n4.toNat = n4 := by simp only [Int.ofNat_eq_natCast]; omega
      have c5 := bounds_u64 w5
      have e5n : Int.ofNat n5.toNat = n5 := by simp only [Int.ofNat_eq_natCast]; omega
      refine ⟨⟨n0, n1.toNat, n2, n3.toNat, n4.toNat, n5.toNat⟩ :: L, fun s => ?_, by simp [e2]⟩
      show ((absCs [.i .i64 n0, .i .u32 n1, .b n2, .i .u64 n3, .i .u64 n4, .i .u64 n5] s).1 ++ (absRows rs (absCs [.i .i64 n0, .i .u32 n1, .b n2, .i .u64 n3, .i .u64 n4, .i .u64 n5] s).2).1, (absRows rs (absCs [.i .i64 n0, .i .u32 n1, .b n2, .i .u64 n3, .i .u64 n4, .i .u64 n5] s).2).2) = _
      have e4 : absCs [.i .i64 n0, .i .u32 n1, .b n2, .i .u64 n3, .i .u64 n4, .i .u64 n5] s = (enC ⟨n0, n1.toNat, n2, n3.toNat, n4.toNat, n5.toNat⟩, s) := by
        simp only [absCs, absC, enC, e1n, e3n, e4n, e5n]
      rw [e4]
      simp only [e1]
      rfl
theorem rows_th : ∀ (rows : List (List SD)), Tyss rows thK → ∃ L : List Th, (∀ s : AS, absRows rows s = (rowsOf thC L, s)) ∧ L.length = rows.length
  | [], _ => ⟨[], fun _ => rfl, rfl⟩
  | r :: rs, h => by
    obtain ⟨h1, h2⟩ := h
    obtain ⟨L, e1, e2⟩ := rows_th rs h2
    match r, h1 with
    | [x0, x1, x2, x3, x4, x5, x6, x7, x8, x9], ⟨k0, k1, k2, k3, k4, k5, k6, k7, k8, k9, _⟩ =>
      cases x0 <;> simp only [Ty] at k0
      cases x1 <;> simp only [Ty] at k1
      cases x2 <;> simp only [Ty] at k2
      cases x3 <;> simp only [Ty] at k3
      cases x4 <;> simp only [Ty] at k4
      cases x5 <;> simp only [Ty] at k5
      cases x6 <;> simp only [Ty] at k6
      cases x7 <;> simp only [Ty] at k7
      cases x8 <;> simp only [Ty] at k8
      cases x9 <;> simp only [Ty] at k9
      obtain ⟨rfl, w0⟩ := k0
      obtain ⟨rfl, w1⟩ := k1
      obtain ⟨rfl, w2⟩ := k2
      obtain ⟨rfl, w3⟩ := k3
      obtain ⟨rfl, w4⟩ := k4
      obtain ⟨rfl, w5⟩ := k5
      obtain ⟨rfl, w6⟩ := k6
      obtain ⟨rfl, w7⟩ := k7
      obtain ⟨rfl, w8⟩ := k8
      obtain ⟨rfl, w9⟩ := k9
      rename_i n0 n1 n2 n3 n4 n5 n6 n7 n8 n9
      have c0 := bounds_u64 w0
      have e0n : Int.ofNat n0.toNat = n0 := by simp only [Int.ofNat_eq_natCast]; omega
      have c1 := bounds_u64 w1
      have e1n : Int.ofNat n1.toNat = n1 := by simp only [Int.ofNat_eq_natCast]; omega
      have c2 := bounds_u64 w2
      have e2n : Int.ofNat n2.toNat = n2 := by simp only [Int.ofNat_eq_natCast]; omega
      have c3 := bounds_u64 w3
      have e3n : Int.ofNat n3.toNat = n3 := by simp only [Int.ofNat_eq_natCast]; omega
      have c4 := bounds_u64 w4
      have e4n : Int.ofNat n4.toNat = n4 := by simp only [Int.ofNat_eq_natCast]; omega
      have c5 := bounds_u64 w5
      have e5n : Int.ofNat n5.toNat = n5 := by simp only [Int.ofNat_eq_natCast]; omega
      have c6 := bounds_u64 w6
      have e6n : Int.ofNat n6.toNat = n6 := by simp only [Int.ofNat_eq_natCast]; omega
      have c7 := bounds_u64 w7
      have e7n : Int.ofNat n7.toNat = n7 := by simp only [Int.ofNat_eq_natCast]; omega
      have c8 := bounds_u64 w8
      have e8n : Int.ofNat n8.toNat = n8 := by simp only [Int.ofNat_eq_natCast]; omega
      have c9 := bounds_u64 w9
      have e9n : Int.ofNat n9.toNat = n9 := by simp only [Int.ofNat_eq_natCast]; omega
      refine ⟨⟨n0.toNat, n1.toNat, n2.toNat, n3.toNat, n4.toNat, n5.toNat, n6.toNat, n7.toNat, n8.toNat, n9.toNat⟩ :: L, fun s => ?_, by simp [e2]⟩
      show ((absCs [.i .u64 n0, .i .u64 n1, .i .u64 n2, .i .u64 n3, .i .u64 n4, .i .u64 n5, .i .u64 n6, .i .u64 n7, .i .u64 n8, .i .u64 n9] s).1 ++ (absRows rs (absCs [.i .u64 n0, .i .u64 n1, .i .u64 n2, .i .u64 n3, .i .u64 n4, .i .u64 n5, .i .u64 n6, .i .u64 n7, .i .u64 n8, .i .u64 n9] s).2).1, (absRows rs (absCs [.i .u64 n0, .i .u64 n1, .i .u64 n2, .i .u64 n3, .i .u64 n4, .i .u64 n5, .i .u64 n6, .i .u64 n7, .i .u64 n8, .i .u64 n9] s).2).2) = _
      have e4 : absCs [.i .u64 n0, .i .u64 n1, .i .u64 n2, .i .u64 n3, .i .u64 n4, .i .u64 n5, .i .u64 n6, .i .u64 n7, .i .u64 n8, .i .u64 n9] s = (thC ⟨n0.toNat, n1.toNat, n2.toNat, n3.toNat, n4.toNat, n5.toNat, n6.toNat, n7.toNat, n8.toNat, n9.toNat⟩, s) := by
        simp only [absCs, absC, thC, e0n, e1n, e2n, e3n, e4n, e5n, e6n, e7n, e8n, e9n]
      rw [e4]
      simp only [e1]
      rfl
theorem in_wh (y : SD) (h : Ty y (.sl whK)) : y = .nil ∨ ∃ rows len, ∃ L : List Nat, y = .sl rows len ∧ len ≤ L.length ∧ (∀ s : AS, absC y s = (.slice s.nx 0 len rows.length, s.push (.cells true (rowsOf wcellB L)))) ∧ ∀ x ∈ L, x < 18446744073709551616 := by
  cases y with
  | nil => exact .inl rfl
  | sl rows len =>
    simp only [Ty] at h
    obtain ⟨l1, _, l3⟩ := h
    obtain ⟨L, e1, e2, e3⟩ := rows_wh rows l3
    exact .inr ⟨rows, len, L, rfl, by omega, fun s => by simp only [absC, e1], e3⟩
  | _ => simp only [Ty] at h
theorem in_en (y : SD) (h : Ty y (.sl enK)) : y = .nil ∨ ∃ rows len, ∃ L : List En, y = .sl rows len ∧ len ≤ L.length ∧ (∀ s : AS, absC y s = (.slice s.nx 0 len rows.length, s.push (.cells true (rowsOf enC L)))) := by
  cases y with
  | nil => exact .inl rfl
  | sl rows len =>
    simp only [Ty] at h
    obtain ⟨l1, _, l3⟩ := h
    obtain ⟨L, e1, e2⟩ := rows_en rows l3
    exact .inr ⟨rows, len, L, rfl, by omega, fun s => by simp only [absC, e1]⟩
  | _ => simp only [Ty] at h
theorem in_th (y : SD) (h : Ty y (.sl thK)) : y = .nil ∨ ∃ rows len, ∃ L : List Th, y = .sl rows len ∧ len ≤ L.length ∧ (∀ s : AS, absC y s = (.slice s.nx 0 len rows.length, s.push (.cells true (rowsOf thC L)))) := by
  cases y with
  | nil => exact .inl rfl
  | sl rows len =>
    simp only [Ty] at h
    obtain ⟨l1, _, l3⟩ := h
    obtain ⟨L, e1, e2⟩ := rows_th rows l3
    exact .inr ⟨rows, len, L, rfl, by omega, fun s => by simp only [absC, e1]⟩
  | _ => simp only [Ty] at h
theorem wdL_lt {L : List Nat} (h : ∀ x ∈ L, x < 18446744073709551616) (k : Nat) : wdL L k < 18446744073709551616 := by
  unfold wdL
  cases hk : L[k]? with
  | none => show 0 < _; omega
  | some x => exact h x (List.mem_of_getElem? hk)
def bpks : List Mini.Pk := [⟨true, [.int .u8, .int .u8, .int .u8, .int .u64, .int .i64, .int .i64, .sl whK, .sl enK, .sl thK, .int .u64]⟩]
theorem bmain (xs : List (Bool × List SD)) (h : Fits xs bpks) : ∃ e s1, Sound Tryd.prog (.call 3 (absArgs xs (startS Tryd.prog G)).1 (absArgs xs (startS Tryd.prog G)).2) ⟨e, [.bool true], s1⟩ := by
  match xs, h with
  | [(a, [x0, x1, x2, x3, x4, x5, y6, y7, y8, x9])], ⟨ha, ⟨k0, k1, k2, k3, k4, k5, k6, k7, k8, k9, _⟩, _⟩ =>
    simp only at ha k0 k1 k2 k3 k4 k5 k6 k7 k8 k9
    subst ha
    cases x0 <;> simp only [Ty] at k0
    cases x1 <;> simp only [Ty] at k1
    cases x2 <;> simp only [Ty] at k2
    cases x3 <;> simp only [Ty] at k3
    cases x4 <;> simp only [Ty] at k4
    cases x5 <;> simp only [Ty] at k5
    cases x9 <;> simp only [Ty] at k9
    obtain ⟨rfl, w0⟩ := k0
    obtain ⟨rfl, w1⟩ := k1
    obtain ⟨rfl, w2⟩ := k2
    obtain ⟨rfl, w3⟩ := k3
    obtain ⟨rfl, w4⟩ := k4
    obtain ⟨rfl, w5⟩ := k5
    obtain ⟨rfl, w9⟩ := k9
    rename_i n0 n1 n2 n3 n4 n5 n9
    have ci : ∀ (k : IntKind) (n : Int) (s : AS), absC (.i k n) s = (.int k n, s) := fun _ _ _ => rfl
    have cn : ∀ s : AS, absC .nil s = (.nilSlice, s) := fun _ => rfl
    rcases in_wh y6 k6 with rfl | ⟨rows6, len6, L6, rfl, l6, a6, b6⟩ <;> rcases in_en y7 k7 with rfl | ⟨rows7, len7, L7, rfl, l7, a7⟩ <;> rcases in_th y8 k8 with rfl | ⟨rows8, len8, L8, rfl, l8, a8⟩
    · obtain ⟨ex, s1, hs⟩ := bl_law ⟨n0, n1, n2, n3, n4, n5, n9⟩ .nilSlice .nilSlice .nilSlice [] [] [] 0 0 0 [(0, .cells true wf)] true rfl (wdL_lt (L := []) (by simp)) (fun s => lenH_n s) (fun s => lenE_n s) (fun s => lenT_n s) (fun _ => pkH_n _ true rfl []) (fun _ => pkE_n _ true rfl []) (fun _ => pkT_n _ true rfl [])
      obtain ⟨s2, hs⟩ := relenB hs 1 2 (by decide)
      refine ⟨ex, s2, ?_⟩
      simp only [absArgs, absCs, ci, cn]
      exact hs
    · obtain ⟨ex, s1, hs⟩ := bl_law ⟨n0, n1, n2, n3, n4, n5, n9⟩ .nilSlice .nilSlice (.slice 2 0 len8 rows8.length) [] [] L8 0 0 len8 [(2, .cells true (rowsOf thC L8)), (0, .cells true wf)] true rfl (wdL_lt (L := []) (by simp)) (fun s => lenH_n s) (fun s => lenE_n s) (fun s => lenT_s s 2 len8 rows8.length) (fun _ => pkH_n _ true rfl []) (fun _ => pkE_n _ true rfl []) (fun hs => pkT_s _ L8 len8 rows8.length 2 (by decide) rfl l8 hs)
      obtain ⟨s2, hs⟩ := relenB hs 2 3 (by decide)
      refine ⟨ex, s2, ?_⟩
      simp only [absArgs, absCs, ci, cn, a8]
      exact hs
    · obtain ⟨ex, s1, hs⟩ := bl_law ⟨n0, n1, n2, n3, n4, n5, n9⟩ .nilSlice (.slice 2 0 len7 rows7.length) .nilSlice [] L7 [] 0 len7 0 [(2, .cells true (rowsOf enC L7)), (0, .cells true wf)] true rfl (wdL_lt (L := []) (by simp)) (fun s => lenH_n s) (fun s => lenE_s s 2 len7 rows7.length) (fun s => lenT_n s) (fun _ => pkH_n _ true rfl []) (fun hs => pkE_s _ L7 len7 rows7.length 2 (by decide) rfl l7 hs) (fun _ => pkT_n _ true rfl [])
      obtain ⟨s2, hs⟩ := relenB hs 2 3 (by decide)
      refine ⟨ex, s2, ?_⟩
      simp only [absArgs, absCs, ci, cn, a7]
      exact hs
    · obtain ⟨ex, s1, hs⟩ := bl_law ⟨n0, n1, n2, n3, n4, n5, n9⟩ .nilSlice (.slice 2 0 len7 rows7.length) (.slice 3 0 len8 rows8.length) [] L7 L8 0 len7 len8 [(3, .cells true (rowsOf thC L8)), (2, .cells true (rowsOf enC L7)), (0, .cells true wf)] true rfl (wdL_lt (L := []) (by simp)) (fun s => lenH_n s) (fun s => lenE_s s 2 len7 rows7.length) (fun s => lenT_s s 3 len8 rows8.length) (fun _ => pkH_n _ true rfl []) (fun hs => pkE_s _ L7 len7 rows7.length 2 (by decide) rfl l7 hs) (fun hs => pkT_s _ L8 len8 rows8.length 3 (by decide) rfl l8 hs)
      obtain ⟨s2, hs⟩ := relenB hs 3 4 (by decide)
      refine ⟨ex, s2, ?_⟩
      simp only [absArgs, absCs, ci, cn, a7, a8]
      exact hs
    · obtain ⟨ex, s1, hs⟩ := bl_law ⟨n0, n1, n2, n3, n4, n5, n9⟩ (.slice 2 0 len6 rows6.length) .nilSlice .nilSlice L6 [] [] len6 0 0 [(2, .cells true (rowsOf wcellB L6)), (0, .cells true wf)] true rfl (wdL_lt b6) (fun s => lenH_s s 2 len6 rows6.length) (fun s => lenE_n s) (fun s => lenT_n s) (fun hs => pkH_s _ L6 len6 rows6.length 2 (by decide) rfl l6 hs) (fun _ => pkE_n _ true rfl []) (fun _ => pkT_n _ true rfl [])
      obtain ⟨s2, hs⟩ := relenB hs 2 3 (by decide)
      refine ⟨ex, s2, ?_⟩
      simp only [absArgs, absCs, ci, cn, a6]
      exact hs
    · obtain ⟨ex, s1, hs⟩ := bl_law ⟨n0, n1, n2, n3, n4, n5, n9⟩ (.slice 2 0 len6 rows6.length) .nilSlice (.slice 3 0 len8 rows8.length) L6 [] L8 len6 0 len8 [(3, .cells true (rowsOf thC L8)), (2, .cells true (rowsOf wcellB L6)), (0, .cells true wf)] true rfl (wdL_lt b6) (fun s => lenH_s s 2 len6 rows6.length) (fun s => lenE_n s) (fun s => lenT_s s 3 len8 rows8.length) (fun hs => pkH_s _ L6 len6 rows6.length 2 (by decide) rfl l6 hs) (fun _ => pkE_n _ true rfl []) (fun hs => pkT_s _ L8 len8 rows8.length 3 (by decide) rfl l8 hs)
      obtain ⟨s2, hs⟩ := relenB hs 3 4 (by decide)
      refine ⟨ex, s2, ?_⟩
      simp only [absArgs, absCs, ci, cn, a6, a8]
      exact hs
    · obtain ⟨ex, s1, hs⟩ := bl_law ⟨n0, n1, n2, n3, n4, n5, n9⟩ (.slice 2 0 len6 rows6.length) (.slice 3 0 len7 rows7.length) .nilSlice L6 L7 [] len6 len7 0 [(3, .cells true (rowsOf enC L7)), (2, .cells true (rowsOf wcellB L6)), (0, .cells true wf)] true rfl (wdL_lt b6) (fun s => lenH_s s 2 len6 rows6.length) (fun s => lenE_s s 3 len7 rows7.length) (fun s => lenT_n s) (fun hs => pkH_s _ L6 len6 rows6.length 2 (by decide) rfl l6 hs) (fun hs => pkE_s _ L7 len7 rows7.length 3 (by decide) rfl l7 hs) (fun _ => pkT_n _ true rfl [])
      obtain ⟨s2, hs⟩ := relenB hs 3 4 (by decide)
      refine ⟨ex, s2, ?_⟩
      simp only [absArgs, absCs, ci, cn, a6, a7]
      exact hs
    · obtain ⟨ex, s1, hs⟩ := bl_law ⟨n0, n1, n2, n3, n4, n5, n9⟩ (.slice 2 0 len6 rows6.length) (.slice 3 0 len7 rows7.length) (.slice 4 0 len8 rows8.length) L6 L7 L8 len6 len7 len8 [(4, .cells true (rowsOf thC L8)), (3, .cells true (rowsOf enC L7)), (2, .cells true (rowsOf wcellB L6)), (0, .cells true wf)] true rfl (wdL_lt b6) (fun s => lenH_s s 2 len6 rows6.length) (fun s => lenE_s s 3 len7 rows7.length) (fun s => lenT_s s 4 len8 rows8.length) (fun hs => pkH_s _ L6 len6 rows6.length 2 (by decide) rfl l6 hs) (fun hs => pkE_s _ L7 len7 rows7.length 3 (by decide) rfl l7 hs) (fun hs => pkT_s _ L8 len8 rows8.length 4 (by decide) rfl l8 hs)
      obtain ⟨s2, hs⟩ := relenB hs 4 5 (by decide)
      refine ⟨ex, s2, ?_⟩
      simp only [absArgs, absCs, ci, a6, a7, a8]
      exact hs
end Go.Proofs.YtipadnlhcnmgaaaDoor.boundsLook
