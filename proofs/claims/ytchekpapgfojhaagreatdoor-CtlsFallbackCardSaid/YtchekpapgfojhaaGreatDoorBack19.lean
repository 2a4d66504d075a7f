/- The law, whole. Conditions: those that each theorem names, and no others. -/
import Derived.Test.YtchekpapgfojhaaGreatDoorBack18
import Derived.Test.YtchekpapgfojhaaGreatDoorMini3
namespace Go.Proofs.YtchekpapgfojhaaGreatDoor.ctlsFallback
open Go Go.Mini
/-! ### the end of the law -/
def TF (l0 l1 : AV) (to : Nat) (lk th : Int) (i : Nat) (q : AV × AV × AV) : List AV := ((((((T0 l0 l1 to lk th i q).set 6 (.bool true)).set 11 junkA).set 12 junkA).set 13 junkA).set 14 junkA).set 193 (.agg [junkA, junkA])
set_option maxRecDepth 100000 in
theorem TF_names {l0 l1 : AV} (h0 : L34 l0) (h1 : L34 l1) (to : Nat) (lk th : Int) (i : Nat) {q : AV × AV × AV} (hq : Cl q) : namess (fun b => Nat.blt b 21) (TF l0 l1 to lk th i q) = true := by
  have e0 : l0.names (fun b => Nat.blt b 21) = true := h0.nm rfl rfl
  have e1 : l1.names (fun b => Nat.blt b 21) = true := h1.nm rfl rfl
  show namess _ (l0 :: l1 :: (TF l0 l1 to lk th i q).drop 2) = true
  simp only [TF, T0, TT, List.set, List.drop, namess, e0, e1, cl_nm hq.1, cl_nm hq.2.1, cl_nm hq.2.2, Bool.true_and, Bool.and_true]
  rfl
theorem TF_slot (l0 l1 : AV) (to : Nat) (lk th : Int) (i : Nat) (q : AV × AV × AV) (π : Nat → Nat) : (rens π (TF l0 l1 to lk th i q))[6]? = some (.bool true) := rfl
section
variable {S : ST} {to : Nat} {lk th tt : Int} {F3 F4 : List AV} {s : AS} {π : Nat → Nat} {i : Nat} {l0 l1 : AV} {q : AV × AV × AV}
theorem at_fin (F : S.F) (h3 : namess (fun _ => false) F3 = true) (h4 : namess (fun _ => false) F4 = true) (A : At Tryz.prog (S.H to lk th tt) (FC F3 F4) s π) (hl0 : L34 l0) (hl1 : L34 l1) (hq : Cl q) (h0 : S.φx.ln = 0) (hφ : S.φx = S.φy) (hm : S.mx = S.mr) :
    ∃ s' π', Sound Tryz.prog (.code cW6 (rens π (T0 l0 l1 to lk th i q)) s) ⟨.ret, rens π' (TF l0 l1 to lk th i q), s'⟩ := by
  have K := F.kan (to := to) (lk := lk) (th := th) (tt := tt) h3 h4
  have hs : ∀ S1 : AS, S1.get 7 = some (.cells false (S.mx.C (.map 8))) → S1.get 9 = some (.cells false (S.mr.C (LV S.mr.ms 10))) → Sound Tryz.prog (.call 14 [.agg [.ptr 7 0, .ptr 9 0]] S1) ⟨.ret, [.bool true], S1⟩ := fun S1 a b => same_at (m := S.mr) (LV_names _ _ _ rfl) (by rw [← hm]; exact a) b
  have e0 : (Int.ofNat S.φx.ln == Int.ofNat 0) = true := by rw [h0]; rfl
  have e1 : (Int.ofNat S.φx.en == Int.ofNat S.φx.en) = true := by simp
  have efx : S.φx.Fx = [.nilFunc, .int .i64 (Int.ofNat S.φx.en), .bool true, .ptr 19 0, .ptr 11 0] := by unfold FS.Fx; rw [h0]; rfl
  have hH : S.H to lk th tt = HF to lk th (.cells false (S.mx.C (.map 8))) (mapO S.mx.ms) (.cells false (S.mr.C (LV S.mr.ms 10))) S.oL (.cells false (S.X lk)) (.cells false (S.Y lk)) S.o13 S.o14 S.o15 S.o16 (.cells false [.nilFunc, .int .i64 (Int.ofNat S.φx.en), .bool true, .ptr 19 0, .ptr 11 0]) (.cells false [.int .i64 (Int.ofNat S.φx.ln), .int .i64 (Int.ofNat S.φx.en), .ptr 12 0, .ptr 20 0]) (.cells false (S.φx.Gx tt)) (.cells false (S.φx.Gy tt)) := by
    unfold ST.H
    rw [efx, ← hφ]
    rfl
  have hx := runX_sound mixed none_sound (fe_run l0 l1 to i lk th q.1 q.2.1 q.2.2 (.cells false (S.mx.C (.map 8))) (mapO S.mx.ms) (.cells false (S.mr.C (LV S.mr.ms 10))) S.oL (.cells false (S.X lk)) (.cells false (S.Y lk)) S.o13 S.o14 S.o15 S.o16 (.cells false (S.φx.Gx tt)) (.cells false (S.φx.Gy tt)) F3 F4 S.φx.ln S.φx.en) ⟨by rw [e0]; rfl, by rw [e1]; rfl, hs _ rfl rfl, lives_q, trivial⟩
  rw [← hH] at hx
  obtain ⟨k5, k6, k7, k8, k9, k10, k11, k12, k13, k14, k15, k16, k17, k18, k19, k20, _⟩ := K.ok
  have hp : ∀ b, Nat.blt b 21 = true → pN 21 [] b = true := fun b h => by unfold pN; rw [h]; rfl
  rw [hH] at A K k17 k18
  rw [hH] at hx
  have ox := onames_sub hp k17.2.2.1
  have oy := onames_sub hp k18.2.2.1
  obtain ⟨s', π', h, _⟩ := At.step (n0 := 21) (nx0 := 21) (new := []) (κ := fun b => b) (T' := TF l0 l1 to lk th i q) (bs' := []) A K List.nodup_nil (fun b hb => by cases hb) (fun _ _ => rfl) (fun _ _ => rfl)
    trivial (fun _ hb => by cases hb) hx (T0_names hl0 hl1 to lk th i hq) (fun b hb => by
      replace hb : b ∈ N16 := hb
      simp only [N16, List.mem_cons, List.not_mem_nil, or_false] at hb
      rcases hb with rfl | rfl | rfl | rfl | rfl | rfl | rfl | rfl | rfl | rfl | rfl | rfl | rfl | rfl | rfl | rfl
      · exact ⟨.inl rfl, rfl⟩
      · exact ⟨.inl rfl, rfl⟩
      · exact ⟨.inl rfl, onames_sub hp k7.2.2.1⟩
      · exact ⟨.inl k8.2.1, onames_sub hp k8.2.2.1⟩
      · exact ⟨.inl rfl, onames_sub hp k9.2.2.1⟩
      · exact ⟨.inl k10.2.1, onames_sub hp k10.2.2.1⟩
      · exact ⟨.inl rfl, onames_sub hp k11.2.2.1⟩
      · exact ⟨.inl rfl, onames_sub hp k12.2.2.1⟩
      · exact ⟨.inl k13.2.1, onames_sub hp k13.2.2.1⟩
      · exact ⟨.inl k14.2.1, onames_sub hp k14.2.2.1⟩
      · exact ⟨.inl k15.2.1, onames_sub hp k15.2.2.1⟩
      · exact ⟨.inl k16.2.1, onames_sub hp k16.2.2.1⟩
      · exact ⟨.inl rfl, rfl⟩
      · exact ⟨.inl rfl, rfl⟩
      · exact ⟨.inl rfl, rfl⟩
      · exact ⟨.inl rfl, rfl⟩) (fun b hb => .inl hb) (TF_names hl0 hl1 to lk th i hq) (by rw [rens_id]; unfold TF T0 TT; repeat (first | exact rfl | refine ⟨_, _, rfl, ?_, ?_⟩ | exact see_same _ | exact .inl ⟨rfl, rfl⟩))
  exact ⟨s', π', h⟩
end
/-! ### the law, whole -/
def sJ (F3 F4 : List AV) : AS := ⟨⟨[(8, .cells false []), (7, .cells false []), (6, .cells false []), (5, .cells false []), (0, .cells true wfW), (1, .cells true wfB), (2, .cells true wfP), (3, .cells true F3), (4, .cells true F4)], 9, none, []⟩, 9⟩
def sJ1 (to : Nat) (lk th : Int) (F3 F4 : List AV) : AS := ⟨⟨[(9, .cells false [.int .u8 (Int.ofNat to), .int .i64 lk, .int .i64 th]), (8, .cells false []), (7, .cells false []), (6, .cells false []), (5, .cells false []), (0, .cells true wfW), (1, .cells true wfB), (2, .cells true wfP), (3, .cells true F3), (4, .cells true F4)], 10, none, []⟩, 10⟩
def sJ6 (to : Nat) (lk th : Int) (oM om oR oL oGx oX oFx oY oGy oFy : AObj) (F3 F4 : List AV) : AS := ⟨⟨[(20, oFy), (19, oGy), (18, oY), (17, oFx), (16, oX), (15, oGx), (14, .cells false [.ptr 10 0, .ptr 12 0]), (13, oL), (12, oR), (11, om), (10, oM), (9, .cells false [.int .u8 (Int.ofNat to), .int .i64 lk, .int .i64 th]), (8, .cells false []), (7, .cells false []), (6, .cells false []), (5, .cells false []), (0, .cells true wfW), (1, .cells true wfB), (2, .cells true wfP), (3, .cells true F3), (4, .cells true F4)], 21, some 16, [14]⟩, 21⟩
def piJ (b : Nat) : Nat := if b = 5 then 9 else if b = 6 then 14 else if b = 7 then 10 else if b = 8 then 11 else if b = 9 then 12 else if b = 10 then 13 else if b = 11 then 16 else if b = 12 then 18 else if b = 13 then 5 else if b = 14 then 6 else if b = 15 then 7 else if b = 16 then 8 else if b = 18 then 20 else if b = 19 then 15 else if b = 20 then 19 else b
def σ0 : SS := ⟨1, 4, 0, -1, 0, 0, 0, 0, newB 0 0⟩
theorem lo_FC {F3 F4 : List AV} {x : Nat × List AV} (hx : x ∈ FC F3 F4) : x.1 < 5 := by
  simp only [FC, List.mem_cons, List.not_mem_nil, or_false] at hx
  rcases hx with rfl | rfl | rfl | rfl | rfl
  · show 0 < 5; decide
  · show 1 < 5; decide
  · show 2 < 5; decide
  · show 3 < 5; decide
  · show 4 < 5; decide
theorem piJ_lo {b : Nat} (h : b < 5) : piJ b = b := by
  unfold piJ
  rw [if_neg (by omega), if_neg (by omega), if_neg (by omega), if_neg (by omega), if_neg (by omega), if_neg (by omega), if_neg (by omega), if_neg (by omega), if_neg (by omega), if_neg (by omega), if_neg (by omega), if_neg (by omega), if_neg (by omega), if_neg (by omega), if_neg (by omega)]
def q00 : AV × AV × AV := (undefA, undefA, undefA)
def fxR : Nat → AV
  | 0 => .nilFunc
  | _ => .func (.func 26) [.ptr 17 0] []
theorem j_inv {m : PM} {oL : AObj} (hr : RO m.ms oL) {φ : FS} (hφ : φ = ⟨1, 4, 1, 0, σ0⟩ ∨ φ = ⟨0, 1, 0, 0, σ0⟩) (to : Nat) (lk th tt : Int) (F3 F4 : List AV) : InvF φ m φ m to lk th tt F3 F4 (sJ6 to lk th (.cells false (m.C (.map 11))) (mapO m.ms) (.cells false (m.C (LV m.ms 13))) oL (.cells false (φ.Gx tt)) (.cells false (σ0.X 2 lk (.func (.func 42) [.ptr 16 0] []) 0 0 0 0 .nilPtr)) (.cells false [fxR φ.ln, .int .i64 (Int.ofNat (if φ.ln = 0 then φ.en else 0)), .bool true, .ptr 15 0, .ptr 16 0]) (.cells false (σ0.Y 2 lk .nilPtr)) (.cells false (φ.Gy tt)) (.cells false [.int .i64 (Int.ofNat φ.ln), .int .i64 (Int.ofNat φ.en), .ptr 18 0, .ptr 19 0]) F3 F4) piJ := by
  have hσ : φ.σ = σ0 := by rcases hφ with rfl | rfl <;> rfl
  have hE : Lx oE := lxE
  refine ⟨⟨φ, m, φ, m, oL, .func (.func 42) [.ptr 11 0] [], 0, 0, 0, 0, .nilPtr, .nilPtr, oE, oE, oE, oE⟩, rfl, rfl, rfl, rfl, ⟨hr, hE, hE, hE, ?_, ?_⟩, ⟨fun g hg => ?_, fun x hx => ?_, fun b hb x hx => ?_, ?_, ⟨rfl, rfl, rfl, ?_, ?_, ?_, ?_, ?_, rfl, rfl, rfl, rfl, ?_, rfl, rfl, rfl, trivial⟩, ?_⟩⟩
  · show XS φ.σ _ _ _ _ _ _ _ _ _ _ _
    rw [hσ]
    exact ⟨rfl, .inl ⟨rfl, rfl⟩, fun h => absurd h (by decide)⟩
  · show Bp0 φ.σ _ _
    rw [hσ]
    exact ⟨⟨rfl, rfl⟩, .inl ⟨rfl, rfl⟩⟩
  · rw [gl3] at hg
    exact piJ_lo (by omega)
  · simp only [FC, List.mem_cons, List.not_mem_nil, or_false] at hx
    rcases hx with rfl | rfl | rfl | rfl | rfl <;> exact ⟨true, rfl⟩
  · have h1 := lo_FC hx
    rw [piJ_lo h1]
    have : ∀ b ∈ N16, 5 ≤ piJ b := by decide
    have := this b hb
    omega
  · show ∀ b ∈ N16, ∀ c ∈ N16, piJ b = piJ c → b = c
    decide
  · show _ = some ((mapO m.ms).ren piJ)
    rw [mapO_ren]
    rfl
  · show _ = some (AObj.cells false (m.C ((LV m.ms 10).ren piJ)))
    rw [LV_ren]
    rfl
  · show _ = some (oL.ren piJ)
    rw [hr.free.ren]
    rfl
  · show _ = some (AObj.cells false (rens piJ (φ.σ.X 2 lk (.func (.func 42) [.ptr 11 0] []) 0 0 0 0 .nilPtr)))
    rw [hσ]
    rfl
  · show _ = some (AObj.cells false (rens piJ (φ.σ.Y 2 lk .nilPtr)))
    rw [hσ]
    rfl
  · rcases hφ with rfl | rfl <;> rfl
  · show ∀ k ∈ [20, 19, 18, 17, 16, 15, 14, 13, 12, 11, 10, 9, 8, 7, 6, 5, 0, 1, 2, 3, 4], k < 21
    decide
theorem law_call {F3 F4 : List AV} {l0 l1 : AV} {fs bt : MS} (W0 : RwL 3 l0 F3 fs) (W1 : RwL 4 l1 F4 bt) (to : Nat) (lk th : Int) (hlk : -9223372036854775808 ≤ lk) :
    ∃ e s1, Sound Tryz.prog (.call 3 [l0, l1, .agg [.int .u8 (Int.ofNat to), .int .i64 lk, .int .i64 th]] (canF [] (FC F3 F4) 5 5)) ⟨e, [.bool true], s1⟩ := by
  have res : Tryz.f3.results.toList = [ResultVar.tmp 6] := by kernel_rfl
  suffices H : ∃ ts s1, tget ts 6 = .bool true ∧ Sound Tryz.prog (.code cW ([l0, l1, .agg [.int .u8 (Int.ofNat to), .int .i64 lk, .int .i64 th]] ++ List.replicate 196 undefA) (sJ F3 F4)) ⟨.ret, ts, s1⟩ by
    obtain ⟨ts, s1, ht, h⟩ := H
    refine ⟨.ret, s1, Sound.phantom (.cells false []) (Sound.phantom (.cells false []) (Sound.phantom (.cells false []) (Sound.phantom (.cells false []) (call_whole (fn := Tryz.f3) (vs := [.bool true]) Tryz.func3 (show Tryz.f3.body = some cW by kernel_rfl) h (.inr rfl) ?_))))⟩
    rw [res]
    simp only [resultsA, resultA, ht]
  rw [cW_eq]
  have h0 := runX_sound mixed none_sound (ja_0 l0 l1 0 0 to lk th .dead .dead .dead .dead .dead .dead .dead .dead .dead .dead F3 F4) trivial
  by_cases b1 : fs.length ≤ 300
  case neg =>
    exact ⟨_, _, rfl, seq_next h0 (seq_stop (runX_sound mixed none_sound (je_1 l0 l1 fs.length 0 to lk th .dead .dead .dead .dead .dead .dead .dead .dead .dead .dead F3 F4) ⟨W0.len _, by rw [show decide (Int.ofNat fs.length > 300) = true from decide_eq_true (by simp only [Int.ofNat_eq_natCast]; omega)]; rfl, lives_q, trivial⟩) (by simp))⟩
  have v1 : decide (Int.ofNat fs.length > 300) = false := decide_eq_false (by simp only [Int.ofNat_eq_natCast]; omega)
  by_cases b2 : bt.length ≤ 500
  case neg =>
    exact ⟨_, _, rfl, seq_next h0 (seq_stop (runX_sound mixed none_sound (je_2 l0 l1 fs.length bt.length to lk th .dead .dead .dead .dead .dead .dead .dead .dead .dead .dead F3 F4) ⟨W0.len _, by rw [v1]; rfl, W1.len _, by rw [show decide (Int.ofNat bt.length > 500) = true from decide_eq_true (by simp only [Int.ofNat_eq_natCast]; omega)]; rfl, lives_q, trivial⟩) (by simp))⟩
  have v2 : decide (Int.ofNat bt.length > 500) = false := decide_eq_false (by simp only [Int.ofNat_eq_natCast]; omega)
  by_cases b3 : lk ≤ 40
  case neg =>
    exact ⟨_, _, rfl, seq_next h0 (seq_stop (runX_sound mixed none_sound (je_3 l0 l1 fs.length bt.length to lk th .dead .dead .dead .dead .dead .dead .dead .dead .dead .dead F3 F4) ⟨W0.len _, by rw [v1]; rfl, W1.len _, by rw [v2]; rfl, by rw [show decide (lk > 40) = true from decide_eq_true (by omega)]; rfl, lives_q, trivial⟩) (by simp))⟩
  have v3 : decide (lk > 40) = false := decide_eq_false (by omega)
  obtain ⟨oL, hr, hok, hB⟩ := b_place W0 W1.fz b1
  have h1 := Sound.sees (ts2 := [l0, l1, .agg [.int .u8 (Int.ofNat to), .int .i64 lk, .int .i64 th], undefA, undefA, .ptr 9 0, .bool false, undefA, undefA, undefA, undefA, undefA, undefA, undefA, undefA] ++ List.replicate 13 junkA ++ List.replicate 171 undefA) (runX_sound mixed none_sound (ja_1 l0 l1 fs.length bt.length to lk th .dead .dead .dead .dead .dead .dead .dead .dead .dead .dead F3 F4) ⟨W0.len _, by rw [v1]; rfl, W1.len _, by rw [v2]; rfl, by rw [v3]; rfl, trivial⟩) (by
    repeat (first | exact rfl | refine ⟨_, _, rfl, ?_, ?_⟩ | exact see_same _ | exact .inl W0.na | exact .inl W1.na | exact .inl ⟨rfl, rfl⟩ | exact .inr ⟨_, _, rfl, rfl, rfl⟩))
  have h3 := Sound.sees (ts2 := [l0, l1, .agg [.int .u8 (Int.ofNat to), .int .i64 lk, .int .i64 th], undefA, undefA, .ptr 9 0, .bool false, .ptr 14 0, undefA, undefA, undefA, undefA, undefA, undefA, undefA] ++ List.replicate 13 junkA ++ [undefA, junkA, .agg [junkA, junkA]] ++ List.replicate 168 undefA) (runX_sound mixed none_sound (ja_3 l0 l1 0 0 to lk th (.cells false ((stAll fs PM0).C (.map 11))) (mapO (stAll fs PM0).ms) (.cells false ((stAll fs PM0).C (LV (stAll fs PM0).ms 13))) oL .dead .dead .dead .dead .dead .dead F3 F4) ⟨hB (sJ1 to lk th F3 F4) (fun x hx => by
      simp only [FC, List.mem_cons, List.not_mem_nil, or_false] at hx
      rcases hx with rfl | rfl | rfl | rfl | rfl <;> exact ⟨true, rfl⟩), trivial⟩) (by
    repeat (first | exact rfl | refine ⟨_, _, rfl, ?_, ?_⟩ | exact see_same _ | exact .inl W0.na | exact .inl W1.na | exact .inl ⟨rfl, rfl⟩ | exact .inr ⟨_, _, rfl, rfl, rfl⟩))
  generalize stAll fs PM0 = m at *
  have fin : ∀ (φ : FS) (tt : Int), (φ = ⟨1, 4, 1, 0, σ0⟩ ∨ φ = ⟨0, 1, 0, 0, σ0⟩) → ∀ {ts4 : List AV} {s4 : AS}, Sound Tryz.prog (.code cW3 ts4 s4) ⟨.normal, [l0, l1, .agg [.int .u8 (Int.ofNat to), .int .i64 lk, .int .i64 th], undefA, undefA, .ptr 9 0, .bool false, .ptr 14 0, .ptr 17 0, undefA, undefA, undefA, undefA, undefA, undefA] ++ List.replicate 13 junkA ++ [undefA, junkA, .agg [junkA, junkA]] ++ List.replicate 5 junkA ++ List.replicate 163 undefA, ⟨⟨[(17, .cells false [fxR φ.ln, .int .i64 (Int.ofNat (if φ.ln = 0 then φ.en else 0)), .bool true, .ptr 15 0, .ptr 16 0]), (16, .cells false (σ0.X 2 lk (.func (.func 42) [.ptr 16 0] []) 0 0 0 0 .nilPtr)), (15, .cells false (φ.Gx tt)), (14, .cells false [.ptr 10 0, .ptr 12 0]), (13, oL), (12, .cells false (m.C (LV m.ms 13))), (11, mapO m.ms), (10, .cells false (m.C (.map 11))), (9, .cells false [.int .u8 (Int.ofNat to), .int .i64 lk, .int .i64 th]), (8, .cells false []), (7, .cells false []), (6, .cells false []), (5, .cells false []), (0, .cells true wfW), (1, .cells true wfB), (2, .cells true wfP), (3, .cells true F3), (4, .cells true F4)], 18, some 16, [14]⟩, 18⟩⟩ →
      Sound Tryz.prog (.code cW4 ([l0, l1, .agg [.int .u8 (Int.ofNat to), .int .i64 lk, .int .i64 th], undefA, undefA, .ptr 9 0, .bool false, .ptr 14 0, .ptr 17 0, undefA, undefA, undefA, undefA, undefA, undefA] ++ List.replicate 13 junkA ++ [undefA, junkA, .agg [junkA, junkA]] ++ List.replicate 5 junkA ++ List.replicate 163 undefA) ⟨⟨[(17, .cells false [fxR φ.ln, .int .i64 (Int.ofNat (if φ.ln = 0 then φ.en else 0)), .bool true, .ptr 15 0, .ptr 16 0]), (16, .cells false (σ0.X 2 lk (.func (.func 42) [.ptr 16 0] []) 0 0 0 0 .nilPtr)), (15, .cells false (φ.Gx tt)), (14, .cells false [.ptr 10 0, .ptr 12 0]), (13, oL), (12, .cells false (m.C (LV m.ms 13))), (11, mapO m.ms), (10, .cells false (m.C (.map 11))), (9, .cells false [.int .u8 (Int.ofNat to), .int .i64 lk, .int .i64 th]), (8, .cells false []), (7, .cells false []), (6, .cells false []), (5, .cells false []), (0, .cells true wfW), (1, .cells true wfB), (2, .cells true wfP), (3, .cells true F3), (4, .cells true F4)], 18, some 16, [14]⟩, 18⟩) ⟨.normal, [l0, l1, .agg [.int .u8 (Int.ofNat to), .int .i64 lk, .int .i64 th], undefA, undefA, .ptr 9 0, .bool false, .ptr 14 0, .ptr 17 0, .ptr 20 0, undefA, undefA, undefA, undefA, undefA] ++ List.replicate 13 junkA ++ [undefA, junkA, .agg [junkA, junkA]] ++ List.replicate 10 junkA ++ List.replicate 158 undefA, sJ6 to lk th (.cells false (m.C (.map 11))) (mapO m.ms) (.cells false (m.C (LV m.ms 13))) oL (.cells false (φ.Gx tt)) (.cells false (σ0.X 2 lk (.func (.func 42) [.ptr 16 0] []) 0 0 0 0 .nilPtr)) (.cells false [fxR φ.ln, .int .i64 (Int.ofNat (if φ.ln = 0 then φ.en else 0)), .bool true, .ptr 15 0, .ptr 16 0]) (.cells false (σ0.Y 2 lk .nilPtr)) (.cells false (φ.Gy tt)) (.cells false [.int .i64 (Int.ofNat φ.ln), .int .i64 (Int.ofNat φ.en), .ptr 18 0, .ptr 19 0]) F3 F4⟩ →
      ∃ ts s1, tget ts 6 = .bool true ∧ Sound Tryz.prog (.code (.seq cW3 (.seq cW4 (.seq (.seq cW5 (.block 0 (.loop cLp))) cW6))) ts4 s4) ⟨.ret, ts, s1⟩ := by
    intro φ tt hφ ts4 s4 h4 h5
    have h6 := Sound.sees (ts2 := rens piJ (T0 l0 l1 to lk th 0 q00)) (runX_sound mixed none_sound (ja_6 l0 l1 0 0 to lk th (.cells false (m.C (.map 11))) (mapO m.ms) (.cells false (m.C (LV m.ms 13))) oL (.cells false (σ0.X 2 lk (.func (.func 42) [.ptr 16 0] []) 0 0 0 0 .nilPtr)) (.cells false (φ.Gx tt)) (.cells false [fxR φ.ln, .int .i64 (Int.ofNat (if φ.ln = 0 then φ.en else 0)), .bool true, .ptr 15 0, .ptr 16 0]) (.cells false (σ0.Y 2 lk .nilPtr)) (.cells false (φ.Gy tt)) (.cells false [.int .i64 (Int.ofNat φ.ln), .int .i64 (Int.ofNat φ.en), .ptr 18 0, .ptr 19 0]) F3 F4) trivial) (by
      have e0 : l0.ren piJ = l0 := W0.nm.ren rfl rfl
      have e1 : l1.ren piJ = l1 := W1.nm.ren rfl rfl
      show seesT _ _ (l0.ren piJ :: l1.ren piJ :: rens piJ ((T0 l0 l1 to lk th 0 q00).drop 2)) _
      rw [e0, e1]
      repeat (first | exact rfl | refine ⟨_, _, rfl, ?_, ?_⟩ | exact see_same _ | exact .inl ⟨rfl, rfl⟩))
    have hσ0 : σ0.Ok 2 lk := ⟨⟨by decide, by decide⟩, rfl, by decide, by decide, by decide, by decide, by decide, by decide, fun h => absurd h (by decide)⟩
    have hokφ : φ.ln ≠ 0 → φ.Ok lk ∧ φ.mu + 0 ≤ 468 := fun h => by
      rcases hφ with rfl | rfl
      · exact ⟨⟨⟨Nat.le_refl 1, by show 1 ≤ 3; omega⟩, rfl, fun _ => ⟨Nat.le_refl 1, by show 1 ≤ 4; omega⟩, fun _ => rfl, by show 0 < _; omega, hσ0⟩, by decide⟩
      · exact absurd rfl h
    obtain ⟨φ', m', i', s', π', q', e0, hq', hL, hI'⟩ := law_loop W0 W1 (tt := tt) hlk b3 500 0 300 φ m _ piJ q00 rfl ⟨rfl, rfl, rfl⟩ (by omega) hokφ hok (by omega) (j_inv hr hφ to lk th tt F3 F4)
    obtain ⟨S, e1, e2, e3, e4, F, A⟩ := hI'
    obtain ⟨s2, π2, h7⟩ := at_fin (i := i') (q := q') F W0.fz W1.fz A W0.nm W1.nm hq' (by rw [e1]; exact e0) (e1.trans e3.symm) (e2.trans e4.symm)
    refine ⟨_, _, ?_, seq_next h4 (seq_next h5 (seq_next (seq_next h6 (block_exit hL rfl)) h7))⟩
    show ((rens π2 (TF l0 l1 to lk th i' q'))[6]?).getD undefA = _
    rw [TF_slot]
    rfl
  by_cases t1 : th < 0
  · skip
    have h4 := Sound.sees (ts2 := [l0, l1, .agg [.int .u8 (Int.ofNat to), .int .i64 lk, .int .i64 th], undefA, undefA, .ptr 9 0, .bool false, .ptr 14 0, .ptr 17 0, undefA, undefA, undefA, undefA, undefA, undefA] ++ List.replicate 13 junkA ++ [undefA, junkA, .agg [junkA, junkA]] ++ List.replicate 5 junkA ++ List.replicate 163 undefA) (runX_sound mixed none_sound (ja_4l l0 l1 0 0 to lk th (.cells false (m.C (.map 11))) (mapO m.ms) (.cells false (m.C (LV m.ms 13))) oL .dead .dead .dead .dead .dead .dead F3 F4) ⟨by rw [show decide (th < 0) = true from decide_eq_true (by omega)]; rfl, trivial⟩) (by
      repeat (first | exact rfl | refine ⟨_, _, rfl, ?_, ?_⟩ | exact see_same _ | exact .inl W0.na | exact .inl W1.na | exact .inl ⟨rfl, rfl⟩ | exact .inr ⟨_, _, rfl, rfl, rfl⟩))
    have h5 := Sound.sees (ts2 := [l0, l1, .agg [.int .u8 (Int.ofNat to), .int .i64 lk, .int .i64 th], undefA, undefA, .ptr 9 0, .bool false, .ptr 14 0, .ptr 17 0, .ptr 20 0, undefA, undefA, undefA, undefA, undefA] ++ List.replicate 13 junkA ++ [undefA, junkA, .agg [junkA, junkA]] ++ List.replicate 10 junkA ++ List.replicate 158 undefA) (runX_sound mixed none_sound (ja_5l l0 l1 0 0 to lk th (.cells false (m.C (.map 11))) (mapO m.ms) (.cells false (m.C (LV m.ms 13))) oL (.cells false (σ0.X 2 lk (.func (.func 42) [.ptr 16 0] []) 0 0 0 0 .nilPtr)) (.cells false (FS.Gx ⟨0, 1, 0, 0, σ0⟩ 0)) (.cells false [fxR (FS.ln ⟨0, 1, 0, 0, σ0⟩), .int .i64 (Int.ofNat (if FS.ln ⟨0, 1, 0, 0, σ0⟩ = 0 then FS.en ⟨0, 1, 0, 0, σ0⟩ else 0)), .bool true, .ptr 15 0, .ptr 16 0]) .dead .dead .dead F3 F4) ⟨by rw [show decide (th < 0) = true from decide_eq_true (by omega)]; rfl, by rw [show decide (th < 0) = true from decide_eq_true (by omega)]; rfl, trivial⟩) (by
      repeat (first | exact rfl | refine ⟨_, _, rfl, ?_, ?_⟩ | exact see_same _ | exact .inl W0.na | exact .inl W1.na | exact .inl ⟨rfl, rfl⟩ | exact .inr ⟨_, _, rfl, rfl, rfl⟩))
    obtain ⟨ts, s1, e, h⟩ := fin ⟨0, 1, 0, 0, σ0⟩ 0 (.inr rfl) h4 h5
    exact ⟨ts, s1, e, seq_next h0 (seq_next h1 (seq_next h3 h))⟩
  by_cases t2 : th ≤ 15
  · skip
    have h4 := Sound.sees (ts2 := [l0, l1, .agg [.int .u8 (Int.ofNat to), .int .i64 lk, .int .i64 th], undefA, undefA, .ptr 9 0, .bool false, .ptr 14 0, .ptr 17 0, undefA, undefA, undefA, undefA, undefA, undefA] ++ List.replicate 13 junkA ++ [undefA, junkA, .agg [junkA, junkA]] ++ List.replicate 5 junkA ++ List.replicate 163 undefA) (runX_sound mixed none_sound (ja_4i l0 l1 0 0 to lk th (.cells false (m.C (.map 11))) (mapO m.ms) (.cells false (m.C (LV m.ms 13))) oL .dead .dead .dead .dead .dead .dead F3 F4) ⟨by rw [show decide (th < 0) = false from decide_eq_false (by omega)]; rfl, by rw [show decide (th ≥ 16) = false from decide_eq_false (by omega)]; rfl, trivial⟩) (by
      repeat (first | exact rfl | refine ⟨_, _, rfl, ?_, ?_⟩ | exact see_same _ | exact .inl W0.na | exact .inl W1.na | exact .inl ⟨rfl, rfl⟩ | exact .inr ⟨_, _, rfl, rfl, rfl⟩))
    have h5 := Sound.sees (ts2 := [l0, l1, .agg [.int .u8 (Int.ofNat to), .int .i64 lk, .int .i64 th], undefA, undefA, .ptr 9 0, .bool false, .ptr 14 0, .ptr 17 0, .ptr 20 0, undefA, undefA, undefA, undefA, undefA] ++ List.replicate 13 junkA ++ [undefA, junkA, .agg [junkA, junkA]] ++ List.replicate 10 junkA ++ List.replicate 158 undefA) (runX_sound mixed none_sound (ja_5i l0 l1 0 0 to lk th (.cells false (m.C (.map 11))) (mapO m.ms) (.cells false (m.C (LV m.ms 13))) oL (.cells false (σ0.X 2 lk (.func (.func 42) [.ptr 16 0] []) 0 0 0 0 .nilPtr)) (.cells false (FS.Gx ⟨1, 4, 1, 0, σ0⟩ th)) (.cells false [fxR (FS.ln ⟨1, 4, 1, 0, σ0⟩), .int .i64 (Int.ofNat (if FS.ln ⟨1, 4, 1, 0, σ0⟩ = 0 then FS.en ⟨1, 4, 1, 0, σ0⟩ else 0)), .bool true, .ptr 15 0, .ptr 16 0]) .dead .dead .dead F3 F4) ⟨by rw [show decide (th < 0) = false from decide_eq_false (by omega)]; rfl, by rw [show decide (th > 15) = false from decide_eq_false (by omega)]; rfl, by rw [show decide (th < 0) = false from decide_eq_false (by omega)]; rfl, by rw [show decide (th > 15) = false from decide_eq_false (by omega)]; rfl, trivial⟩) (by
      repeat (first | exact rfl | refine ⟨_, _, rfl, ?_, ?_⟩ | exact see_same _ | exact .inl W0.na | exact .inl W1.na | exact .inl ⟨rfl, rfl⟩ | exact .inr ⟨_, _, rfl, rfl, rfl⟩))
    obtain ⟨ts, s1, e, h⟩ := fin ⟨1, 4, 1, 0, σ0⟩ th (.inl rfl) h4 h5
    exact ⟨ts, s1, e, seq_next h0 (seq_next h1 (seq_next h3 h))⟩
  · skip
    have h4 := Sound.sees (ts2 := [l0, l1, .agg [.int .u8 (Int.ofNat to), .int .i64 lk, .int .i64 th], undefA, undefA, .ptr 9 0, .bool false, .ptr 14 0, .ptr 17 0, undefA, undefA, undefA, undefA, undefA, undefA] ++ List.replicate 13 junkA ++ [undefA, junkA, .agg [junkA, junkA]] ++ List.replicate 5 junkA ++ List.replicate 163 undefA) (runX_sound mixed none_sound (ja_4g l0 l1 0 0 to lk th (.cells false (m.C (.map 11))) (mapO m.ms) (.cells false (m.C (LV m.ms 13))) oL .dead .dead .dead .dead .dead .dead F3 F4) ⟨by rw [show decide (th < 0) = false from decide_eq_false (by omega)]; rfl, by rw [show decide (th ≥ 16) = true from decide_eq_true (by omega)]; rfl, trivial⟩) (by
      repeat (first | exact rfl | refine ⟨_, _, rfl, ?_, ?_⟩ | exact see_same _ | exact .inl W0.na | exact .inl W1.na | exact .inl ⟨rfl, rfl⟩ | exact .inr ⟨_, _, rfl, rfl, rfl⟩))
    have h5 := Sound.sees (ts2 := [l0, l1, .agg [.int .u8 (Int.ofNat to), .int .i64 lk, .int .i64 th], undefA, undefA, .ptr 9 0, .bool false, .ptr 14 0, .ptr 17 0, .ptr 20 0, undefA, undefA, undefA, undefA, undefA] ++ List.replicate 13 junkA ++ [undefA, junkA, .agg [junkA, junkA]] ++ List.replicate 10 junkA ++ List.replicate 158 undefA) (runX_sound mixed none_sound (ja_5g l0 l1 0 0 to lk th (.cells false (m.C (.map 11))) (mapO m.ms) (.cells false (m.C (LV m.ms 13))) oL (.cells false (σ0.X 2 lk (.func (.func 42) [.ptr 16 0] []) 0 0 0 0 .nilPtr)) (.cells false (FS.Gx ⟨0, 1, 0, 0, σ0⟩ 0)) (.cells false [fxR (FS.ln ⟨0, 1, 0, 0, σ0⟩), .int .i64 (Int.ofNat (if FS.ln ⟨0, 1, 0, 0, σ0⟩ = 0 then FS.en ⟨0, 1, 0, 0, σ0⟩ else 0)), .bool true, .ptr 15 0, .ptr 16 0]) .dead .dead .dead F3 F4) ⟨by rw [show decide (th < 0) = false from decide_eq_false (by omega)]; rfl, by rw [show decide (th > 15) = true from decide_eq_true (by omega)]; rfl, by rw [show decide (th < 0) = false from decide_eq_false (by omega)]; rfl, by rw [show decide (th > 15) = true from decide_eq_true (by omega)]; rfl, trivial⟩) (by
      repeat (first | exact rfl | refine ⟨_, _, rfl, ?_, ?_⟩ | exact see_same _ | exact .inl W0.na | exact .inl W1.na | exact .inl ⟨rfl, rfl⟩ | exact .inr ⟨_, _, rfl, rfl, rfl⟩))
    obtain ⟨ts, s1, e, h⟩ := fin ⟨0, 1, 0, 0, σ0⟩ 0 (.inr rfl) h4 h5
    exact ⟨ts, s1, e, seq_next h0 (seq_next h1 (seq_next h3 h))⟩
/-! ### the law, for all arguments -/
theorem tSts : Tryz.prog.underlying 22 = some (.slice 47) := by kernel_rfl
theorem law_place {F3 F4 : List AV} {l0 l1 : AV} {fs bt : MS} (W0 : RwL 3 l0 F3 fs) (W1 : RwL 4 l1 F4 bt) (to : Nat) (lk th : Int) (_ : to < 256) (hlk : -9223372036854775808 ≤ lk) (π : Nat → Nat) (s : AS) (hπ : ∀ g, g < 3 → π g = g) (hF : ∀ x ∈ FC F3 F4, ∃ ro, s.get (π x.1) = some (.cells ro x.2)) :
    ∃ e s1, Sound Tryz.prog (.call 3 [l0.ren π, l1.ren π, .agg [.int .u8 (Int.ofNat to), .int .i64 lk, .int .i64 th]] s) ⟨e, [.bool true], s1⟩ := by
  obtain ⟨e, s1, h⟩ := law_call W0 W1 to lk th hlk
  refine ⟨_, _, Sound.putFG (bs0 := []) (Fz := FC F3 F4) h π (fun g hg => ⟨by rw [gl3] at hg; omega, hπ g (by rw [gl3] at hg; omega)⟩) [] s (fun x hx => ⟨lo_FC hx, by simp, ?_, hF x hx, fun b hb => by cases hb⟩) trivial (fun _ hb => by cases hb) List.nodup_nil List.nodup_nil (fun b hb => by cases hb) ?_ rfl⟩
  · simp only [FC, List.mem_cons, List.not_mem_nil, or_false] at hx
    rcases hx with rfl | rfl | rfl | rfl | rfl
    · rfl
    · rfl
    · rfl
    · exact W0.fz
    · exact W1.fz
  · show (l0.names _ && (l1.names _ && true)) = true
    rw [W0.nm.nm rfl rfl, W1.nm.nm rfl rfl]
    rfl
theorem rw_nil (b : Nat) : RwL b .nilSlice [] [] := ⟨rfl, ⟨rfl, rfl⟩, fun s => by simp only [lenA, tSts]; rfl, fun i hi => absurd hi (Nat.not_lt_zero i), ⟨[], rfl⟩, fun x hx => by cases hx⟩
theorem rw_sl {b : Nat} (hb : b = 3 ∨ b = 4) (L : MS) (hL : ∀ x ∈ L, 0 ≤ x.1.1 ∧ x.2 < 18446744073709551616) (len c : Nat) (h : len ≤ L.length) : RwL b (.slice b 0 len c) (rowsOf wc L) (L.take len) := by
  have hlen : (L.take len).length = len := by simp; omega
  refine ⟨?_, ?_, fun s => ?_, fun i hi => ?_, ⟨L.drop len, by rw [List.take_append_drop]⟩, fun x hx => hL x (List.mem_of_mem_take hx)⟩
  · rcases hb with rfl | rfl <;> rfl
  · exact ⟨rfl, rfl⟩
  · rw [hlen]
    simp only [lenA, tSts]
    rfl
  · rw [hlen] at hi
    rw [idx_slice (o := 0) tSts sSt hi, Nat.zero_add]
def stK : List Kc := [.int .u8, .int .i64, .int .i64, .int .u64]
theorem rows_st : ∀ (rows : List (List SD)), Tyss rows stK → ∃ L : MS, (∀ s : AS, absRows rows s = (rowsOf wc L, s)) ∧ L.length = rows.length ∧ ∀ x ∈ L, 0 ≤ x.1.1 ∧ x.2 < 18446744073709551616
  | [], _ => ⟨[], fun _ => rfl, rfl, fun x hx => by cases hx⟩
  | r :: rs, h => by
    obtain ⟨h1, h2⟩ := h
    obtain ⟨L, e1, e2, e3⟩ := rows_st rs h2
    match r, h1 with
    | [x0, x1, x2, x3], ⟨k0, k1, k2, k3, _⟩ =>
      cases x0 <;> simp only [Ty] at k0
      cases x1 <;> simp only [Ty] at k1
      cases x2 <;> simp only [Ty] at k2
      cases x3 <;> simp only [Ty] at k3
      obtain ⟨rfl, w0⟩ := k0
      obtain ⟨rfl, w1⟩ := k1
      obtain ⟨rfl, w2⟩ := k2
      obtain ⟨rfl, w3⟩ := k3
      rename_i n0 n1 n2 n3
      have c0 := bounds_u8 w0
      have c3 := bounds_u64 w3
      have e3n : Int.ofNat n3.toNat = n3 := by simp only [Int.ofNat_eq_natCast]; omega
      refine ⟨((n0, n1, n2), n3.toNat) :: L, fun s => ?_, by simp [e2], fun x hx => ?_⟩
      · show ((absCs [.i .u8 n0, .i .i64 n1, .i .i64 n2, .i .u64 n3] s).1 ++ (absRows rs (absCs [.i .u8 n0, .i .i64 n1, .i .i64 n2, .i .u64 n3] s).2).1, (absRows rs (absCs [.i .u8 n0, .i .i64 n1, .i .i64 n2, .i .u64 n3] s).2).2) = _
        have e4 : absCs [.i .u8 n0, .i .i64 n1, .i .i64 n2, .i .u64 n3] s = (wc ((n0, n1, n2), n3.toNat), s) := by
          simp only [absCs, absC, wc, ak, e3n]
          rfl
        rw [e4]
        simp only [e1]
        rfl
      · rcases List.mem_cons.1 hx with rfl | hx
        · exact ⟨c0.1, by show n3.toNat < _; omega⟩
        · exact e3 x hx
def GL : List (Nat × List AV) := [(1, wfB), (2, wfP), (0, wfW)]
def jpks : List Pk := [⟨false, [.sl stK]⟩, ⟨false, [.sl stK]⟩, ⟨true, [.int .u8, .int .i64, .int .i64]⟩]
theorem st_eq : startS Tryz.prog GL = ⟨⟨[(1, .cells true wfB), (2, .cells true wfP), (0, .cells true wfW)], 3, none, []⟩, 3⟩ := by
  show (⟨⟨_, _, none, []⟩, Tryz.prog.globals.size⟩ : AS) = _
  rw [gl3]
  rfl
def sw34 (b : Nat) : Nat := if b = 3 then 4 else if b = 4 then 3 else b
theorem j_main (xs : List (Bool × List SD)) (h : Fits xs jpks) : ∃ e s1, Sound Tryz.prog (.call 3 (absArgs xs (startS Tryz.prog GL)).1 (absArgs xs (startS Tryz.prog GL)).2) ⟨e, [.bool true], s1⟩ := by
  match xs, h with
  | [(b1, [u1]), (b2, [u2]), (b3, [u3, u4, u5])], ⟨g1, ⟨k1, _⟩, g2, ⟨k2, _⟩, g3, ⟨k3, k4, k5, _⟩, _⟩ =>
    simp only at g1 g2 g3 k1 k2 k3 k4 k5
    subst g1 g2 g3
    rw [st_eq]
    cases u3 <;> simp only [Ty] at k3
    cases u4 <;> simp only [Ty] at k4
    cases u5 <;> simp only [Ty] at k5
    obtain ⟨rfl, w3⟩ := k3
    obtain ⟨rfl, w4⟩ := k4
    obtain ⟨rfl, w5⟩ := k5
    rename_i m3 lk th
    have b3 := bounds_u8 w3
    have b4 := bounds_i64 w4
    obtain ⟨to, rfl⟩ : ∃ t : Nat, m3 = Int.ofNat t := ⟨m3.toNat, by simp only [Int.ofNat_eq_natCast]; omega⟩
    have hto : to < 256 := by
      have := b3.2
      simp only [Int.ofNat_eq_natCast] at this
      omega
    have hlk : -9223372036854775808 ≤ lk := by omega
    cases u1 with
    | nil =>
      cases u2 with
      | nil =>
        obtain ⟨e, s1, hs⟩ := law_place (rw_nil 3) (rw_nil 4) to lk th hto hlk (fun b => b) ⟨⟨[(4, .cells true []), (3, .cells true []), (1, .cells true wfB), (2, .cells true wfP), (0, .cells true wfW)], 5, none, []⟩, 5⟩ (fun _ _ => rfl) (fun x hx => by
          simp only [FC, List.mem_cons, List.not_mem_nil, or_false] at hx
          rcases hx with rfl | rfl | rfl | rfl | rfl <;> exact ⟨true, rfl⟩)
        exact ⟨e, s1, Sound.phantom (.cells true []) (Sound.phantom (.cells true []) hs)⟩
      | sl rows len =>
        simp only [Ty] at k2
        obtain ⟨l1, l2, l3⟩ := k2
        obtain ⟨B, e1, e2, e3⟩ := rows_st rows l3
        have e5 : absArgs [(false, [.nil]), (false, [.sl rows len]), (true, [.i .u8 (Int.ofNat to), .i .i64 lk, .i .i64 th])] ⟨⟨[(1, .cells true wfB), (2, .cells true wfP), (0, .cells true wfW)], 3, none, []⟩, 3⟩ = ([.nilSlice, .slice 3 0 len rows.length, .agg [.int .u8 (Int.ofNat to), .int .i64 lk, .int .i64 th]], ⟨⟨[(3, .cells true (rowsOf wc B)), (1, .cells true wfB), (2, .cells true wfP), (0, .cells true wfW)], 4, none, []⟩, 4⟩) := by
          simp only [absArgs, absCs, absC, e1]
          rfl
        obtain ⟨e, s1, hs⟩ := law_place (rw_nil 3) (rw_sl (.inr rfl) B e3 len rows.length (by omega)) to lk th hto hlk sw34 ⟨⟨[(4, .cells true []), (3, .cells true (rowsOf wc B)), (1, .cells true wfB), (2, .cells true wfP), (0, .cells true wfW)], 5, none, []⟩, 5⟩ (fun g hg => by
            unfold sw34
            rw [if_neg (by omega), if_neg (by omega)]) (fun x hx => by
          simp only [FC, List.mem_cons, List.not_mem_nil, or_false] at hx
          rcases hx with rfl | rfl | rfl | rfl | rfl <;> exact ⟨true, rfl⟩)
        rw [e5]
        exact ⟨e, s1, Sound.phantom (.cells true []) hs⟩
      | _ => simp only [Ty] at k2
    | sl rows len =>
      simp only [Ty] at k1
      obtain ⟨l1, l2, l3⟩ := k1
      obtain ⟨L, e1, e2, e3⟩ := rows_st rows l3
      cases u2 with
      | nil =>
        have e5 : absArgs [(false, [.sl rows len]), (false, [.nil]), (true, [.i .u8 (Int.ofNat to), .i .i64 lk, .i .i64 th])] ⟨⟨[(1, .cells true wfB), (2, .cells true wfP), (0, .cells true wfW)], 3, none, []⟩, 3⟩ = ([.slice 3 0 len rows.length, .nilSlice, .agg [.int .u8 (Int.ofNat to), .int .i64 lk, .int .i64 th]], ⟨⟨[(3, .cells true (rowsOf wc L)), (1, .cells true wfB), (2, .cells true wfP), (0, .cells true wfW)], 4, none, []⟩, 4⟩) := by
          simp only [absArgs, absCs, absC, e1]
          rfl
        obtain ⟨e, s1, hs⟩ := law_place (rw_sl (.inl rfl) L e3 len rows.length (by omega)) (rw_nil 4) to lk th hto hlk (fun b => b) ⟨⟨[(4, .cells true []), (3, .cells true (rowsOf wc L)), (1, .cells true wfB), (2, .cells true wfP), (0, .cells true wfW)], 5, none, []⟩, 5⟩ (fun _ _ => rfl) (fun x hx => by
          simp only [FC, List.mem_cons, List.not_mem_nil, or_false] at hx
          rcases hx with rfl | rfl | rfl | rfl | rfl <;> exact ⟨true, rfl⟩)
        rw [e5]
        exact ⟨e, s1, Sound.phantom (.cells true []) hs⟩
      | sl rows2 len2 =>
        simp only [Ty] at k2
        obtain ⟨q1, q2, q3⟩ := k2
        obtain ⟨B, f1, f2, f3⟩ := rows_st rows2 q3
        have e5 : absArgs [(false, [.sl rows len]), (false, [.sl rows2 len2]), (true, [.i .u8 (Int.ofNat to), .i .i64 lk, .i .i64 th])] ⟨⟨[(1, .cells true wfB), (2, .cells true wfP), (0, .cells true wfW)], 3, none, []⟩, 3⟩ = ([.slice 3 0 len rows.length, .slice 4 0 len2 rows2.length, .agg [.int .u8 (Int.ofNat to), .int .i64 lk, .int .i64 th]], ⟨⟨[(4, .cells true (rowsOf wc B)), (3, .cells true (rowsOf wc L)), (1, .cells true wfB), (2, .cells true wfP), (0, .cells true wfW)], 5, none, []⟩, 5⟩) := by
          simp only [absArgs, absCs, absC, e1, f1]
          rfl
        rw [e5]
        exact law_place (rw_sl (.inl rfl) L e3 len rows.length (by omega)) (rw_sl (.inr rfl) B f3 len2 rows2.length (by omega)) to lk th hto hlk (fun b => b) _ (fun _ _ => rfl) (fun x hx => by
          simp only [FC, List.mem_cons, List.not_mem_nil, or_false] at hx
          rcases hx with rfl | rfl | rfl | rfl | rfl <;> exact ⟨true, rfl⟩)
      | _ => simp only [Ty] at k2
    | _ => simp only [Ty] at k1
end Go.Proofs.YtchekpapgfojhaaGreatDoor.ctlsFallback
