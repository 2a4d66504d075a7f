/- What lives says; the phase, and the memory at first. Conditions: those that each theorem names, and no others. -/
import Derived.Test.YtofbdgmknfbkfaaGreatDoorLife17
namespace Go.Proofs.YtofbdgmknfbkfaaGreatDoor.nodesLife
open Go Go.Mini
/-! ### lives -/
def saysYes : Option Res → Bool
  | some ⟨.ret, [.bool true], _⟩ => true
  | _ => false
theorem lives_run : saysYes (runH Tryz.prog none_ 1500 (.call 4 [] (startS Tryz.prog GF))) = true := by kernel_rfl
theorem lives_q : (Qst.pure GF 4 [] (.bool true)).ok Tryz.prog := by
  have h := lives_run
  cases hr : runH Tryz.prog none_ 1500 (.call 4 [] (startS Tryz.prog GF)) with
  | none => rw [hr] at h; cases h
  | some r =>
    rw [hr] at h
    obtain ⟨e, ts, s1⟩ := r
    unfold saysYes at h
    split at h
    · rename_i h1
      injection h1 with h1
      injection h1 with h1 h2 h3
      subst h1 h2
      exact fun s hs => Sound.pure (runH_sound mixed none_sound _ _ _ hr) (by kernel_rfl) rfl rfl hs
    · cases h
end Go.Proofs.YtofbdgmknfbkfaaGreatDoor.nodesLife
namespace Go.Proofs.YtofbdgmknfbkfaaGreatDoor.nodesLife
open Go Go.Mini
/-! ### the phase's word -/
def ofp (a b c n : Nat) : Nat := cz a + 8 * (b % 8) + 64 * (c % 8) + 65536 * (n % 281474976710656)
theorem phase_run (a b c n z b' c' n' b2 c2 n2 w1 w2 w3 : Nat) : runX Tryz.prog none_ 50 28 (.call 28 [.agg (phC a b c n)] (startS Tryz.prog G)) [.call 28 1 2 (.int .u8 (Int.ofNat z)) id, .val 54 1 2 (.int .u64 (Int.ofNat z)), .val 54 1 5 (.int .u64 (Int.ofNat z)), .val 54 1 10 (.int .u64 (Int.ofNat z)), .val 54 1 11 (.int .u64 (Int.ofNat z)),
  .val 57 1 2 (.int .u64 (Int.ofNat b)), .val 57 1 5 (.int .u64 (Int.ofNat b')), .val 57 1 10 (.int .u64 (Int.ofNat b2)), .val 57 1 11 (.int .u64 (Int.ofNat w1)),
  .val 57 1 2 (.int .u64 (Int.ofNat c)), .val 57 1 5 (.int .u64 (Int.ofNat c')), .val 57 1 10 (.int .u64 (Int.ofNat c2)), .val 57 1 11 (.int .u64 (Int.ofNat w2)),
  .val 56 1 4 (.int .u64 (Int.ofNat n')), .val 56 1 9 (.int .u64 (Int.ofNat n2)), .val 56 1 10 (.int .u64 (Int.ofNat w3))] = some ({ e := AExit.ret, ts := [AV.int IntKind.u64 (Int.ofNat w3)], s := { h := { bs := [(1, AObj.cells true wf)], len := 1, esc := none, wr := [] }, nx := 3 } }, [], [Qst.snd (Task.call 55 [AV.int IntKind.u8 (Int.ofNat a)] { h := { bs := [(2, AObj.cells false [AV.int IntKind.u8 (Int.ofNat a), AV.int IntKind.u8 (Int.ofNat b), AV.int IntKind.u8 (Int.ofNat c), AV.int IntKind.u64 (Int.ofNat n)]), (1, AObj.cells true wf)], len := 2, esc := none, wr := [] }, nx := 3 }) { e := AExit.ret, ts := [AV.int IntKind.u8 (Int.ofNat z)], s := { h := { bs := [(2, AObj.cells false [AV.int IntKind.u8 (Int.ofNat a), AV.int IntKind.u8 (Int.ofNat b), AV.int IntKind.u8 (Int.ofNat c), AV.int IntKind.u64 (Int.ofNat n)]), (1, AObj.cells true wf)], len := 2, esc := none, wr := [] }, nx := 3 } }, Qst.val (some (AV.int IntKind.u64 (Int.ofNat (z % ((2 : Int) ^ IntKind.u64.bits).natAbs)))) (AV.int IntKind.u64 (Int.ofNat z)), Qst.val (some (AV.int IntKind.u64 (Int.ofNat ((match BinOp.and with | BinOp.and => BitVec.ofInt IntKind.u64.bits (Int.ofNat z) &&& BitVec.ofInt IntKind.u64.bits (IntKind.u64.wrap (IntKind.u64.wrap (1 * 2 ^ min (Int.toNat 3) IntKind.u64.bits) - 1)) | BinOp.or => BitVec.ofInt IntKind.u64.bits (Int.ofNat z) ||| BitVec.ofInt IntKind.u64.bits (IntKind.u64.wrap (IntKind.u64.wrap (1 * 2 ^ min (Int.toNat 3) IntKind.u64.bits) - 1)) | BinOp.xor => BitVec.ofInt IntKind.u64.bits (Int.ofNat z) ^^^ BitVec.ofInt IntKind.u64.bits (IntKind.u64.wrap (IntKind.u64.wrap (1 * 2 ^ min (Int.toNat 3) IntKind.u64.bits) - 1)) | _ => BitVec.ofInt IntKind.u64.bits (Int.ofNat z) &&& ~~~BitVec.ofInt IntKind.u64.bits (IntKind.u64.wrap (IntKind.u64.wrap (1 * 2 ^ min (Int.toNat 3) IntKind.u64.bits) - 1))).toNat % ((2 : Int) ^ IntKind.u64.bits).natAbs)))) (AV.int IntKind.u64 (Int.ofNat z)), Qst.val (some (AV.int IntKind.u64 (Int.ofNat (z * 2 ^ min (Int.toNat 0) IntKind.u64.bits % ((2 : Int) ^ IntKind.u64.bits).natAbs)))) (AV.int IntKind.u64 (Int.ofNat z)), Qst.val (some (AV.int IntKind.u64 (Int.ofNat ((match BinOp.or with | BinOp.and => BitVec.ofInt IntKind.u64.bits 0 &&& BitVec.ofInt IntKind.u64.bits (Int.ofNat z) | BinOp.or => BitVec.ofInt IntKind.u64.bits 0 ||| BitVec.ofInt IntKind.u64.bits (Int.ofNat z) | BinOp.xor => BitVec.ofInt IntKind.u64.bits 0 ^^^ BitVec.ofInt IntKind.u64.bits (Int.ofNat z) | _ => BitVec.ofInt IntKind.u64.bits 0 &&& ~~~BitVec.ofInt IntKind.u64.bits (Int.ofNat z)).toNat % ((2 : Int) ^ IntKind.u64.bits).natAbs)))) (AV.int IntKind.u64 (Int.ofNat z)), Qst.val (some (AV.int IntKind.u64 (Int.ofNat (b % ((2 : Int) ^ IntKind.u64.bits).natAbs)))) (AV.int IntKind.u64 (Int.ofNat b)), Qst.val (some (AV.int IntKind.u64 (Int.ofNat ((match BinOp.and with | BinOp.and => BitVec.ofInt IntKind.u64.bits (Int.ofNat b) &&& BitVec.ofInt IntKind.u64.bits (IntKind.u64.wrap (IntKind.u64.wrap (1 * 2 ^ min (Int.toNat 3) IntKind.u64.bits) - 1)) | BinOp.or => BitVec.ofInt IntKind.u64.bits (Int.ofNat b) ||| BitVec.ofInt IntKind.u64.bits (IntKind.u64.wrap (IntKind.u64.wrap (1 * 2 ^ min (Int.toNat 3) IntKind.u64.bits) - 1)) | BinOp.xor => BitVec.ofInt IntKind.u64.bits (Int.ofNat b) ^^^ BitVec.ofInt IntKind.u64.bits (IntKind.u64.wrap (IntKind.u64.wrap (1 * 2 ^ min (Int.toNat 3) IntKind.u64.bits) - 1)) | _ => BitVec.ofInt IntKind.u64.bits (Int.ofNat b) &&& ~~~BitVec.ofInt IntKind.u64.bits (IntKind.u64.wrap (IntKind.u64.wrap (1 * 2 ^ min (Int.toNat 3) IntKind.u64.bits) - 1))).toNat % ((2 : Int) ^ IntKind.u64.bits).natAbs)))) (AV.int IntKind.u64 (Int.ofNat b')), Qst.val (some (AV.int IntKind.u64 (Int.ofNat (b' * 2 ^ min (Int.toNat 3) IntKind.u64.bits % ((2 : Int) ^ IntKind.u64.bits).natAbs)))) (AV.int IntKind.u64 (Int.ofNat b2)), Qst.val (some (AV.int IntKind.u64 (Int.ofNat ((match BinOp.or with | BinOp.and => BitVec.ofInt IntKind.u64.bits (Int.ofNat z) &&& BitVec.ofInt IntKind.u64.bits (Int.ofNat b2) | BinOp.or => BitVec.ofInt IntKind.u64.bits (Int.ofNat z) ||| BitVec.ofInt IntKind.u64.bits (Int.ofNat b2) | BinOp.xor => BitVec.ofInt IntKind.u64.bits (Int.ofNat z) ^^^ BitVec.ofInt IntKind.u64.bits (Int.ofNat b2) | _ => BitVec.ofInt IntKind.u64.bits (Int.ofNat z) &&& ~~~BitVec.ofInt IntKind.u64.bits (Int.ofNat b2)).toNat % ((2 : Int) ^ IntKind.u64.bits).natAbs)))) (AV.int IntKind.u64 (Int.ofNat w1)), Qst.val (some (AV.int IntKind.u64 (Int.ofNat (c % ((2 : Int) ^ IntKind.u64.bits).natAbs)))) (AV.int IntKind.u64 (Int.ofNat c)), Qst.val (some (AV.int IntKind.u64 (Int.ofNat ((match BinOp.and with | BinOp.and => BitVec.ofInt IntKind.u64.bits (Int.ofNat c) &&& BitVec.ofInt IntKind.u64.bits (IntKind.u64.wrap (IntKind.u64.wrap (1 * 2 ^ min (Int.toNat 3) IntKind.u64.bits) - 1)) | BinOp.or => BitVec.ofInt IntKind.u64.bits (Int.ofNat c) ||| BitVec.ofInt IntKind.u64.bits (IntKind.u64.wrap (IntKind.u64.wrap (1 * 2 ^ min (Int.toNat 3) IntKind.u64.bits) - 1)) | BinOp.xor => BitVec.ofInt IntKind.u64.bits (Int.ofNat c) ^^^ BitVec.ofInt IntKind.u64.bits (IntKind.u64.wrap (IntKind.u64.wrap (1 * 2 ^ min (Int.toNat 3) IntKind.u64.bits) - 1)) | _ => BitVec.ofInt IntKind.u64.bits (Int.ofNat c) &&& ~~~BitVec.ofInt IntKind.u64.bits (IntKind.u64.wrap (IntKind.u64.wrap (1 * 2 ^ min (Int.toNat 3) IntKind.u64.bits) - 1))).toNat % ((2 : Int) ^ IntKind.u64.bits).natAbs)))) (AV.int IntKind.u64 (Int.ofNat c')), Qst.val (some (AV.int IntKind.u64 (Int.ofNat (c' * 2 ^ min (Int.toNat 6) IntKind.u64.bits % ((2 : Int) ^ IntKind.u64.bits).natAbs)))) (AV.int IntKind.u64 (Int.ofNat c2)), Qst.val (some (AV.int IntKind.u64 (Int.ofNat ((match BinOp.or with | BinOp.and => BitVec.ofInt IntKind.u64.bits (Int.ofNat w1) &&& BitVec.ofInt IntKind.u64.bits (Int.ofNat c2) | BinOp.or => BitVec.ofInt IntKind.u64.bits (Int.ofNat w1) ||| BitVec.ofInt IntKind.u64.bits (Int.ofNat c2) | BinOp.xor => BitVec.ofInt IntKind.u64.bits (Int.ofNat w1) ^^^ BitVec.ofInt IntKind.u64.bits (Int.ofNat c2) | _ => BitVec.ofInt IntKind.u64.bits (Int.ofNat w1) &&& ~~~BitVec.ofInt IntKind.u64.bits (Int.ofNat c2)).toNat % ((2 : Int) ^ IntKind.u64.bits).natAbs)))) (AV.int IntKind.u64 (Int.ofNat w2)), Qst.val (some (AV.int IntKind.u64 (Int.ofNat ((match BinOp.and with | BinOp.and => BitVec.ofInt IntKind.u64.bits (Int.ofNat n) &&& BitVec.ofInt IntKind.u64.bits (IntKind.u64.wrap (IntKind.u64.wrap (1 * 2 ^ min (Int.toNat 48) IntKind.u64.bits) - 1)) | BinOp.or => BitVec.ofInt IntKind.u64.bits (Int.ofNat n) ||| BitVec.ofInt IntKind.u64.bits (IntKind.u64.wrap (IntKind.u64.wrap (1 * 2 ^ min (Int.toNat 48) IntKind.u64.bits) - 1)) | BinOp.xor => BitVec.ofInt IntKind.u64.bits (Int.ofNat n) ^^^ BitVec.ofInt IntKind.u64.bits (IntKind.u64.wrap (IntKind.u64.wrap (1 * 2 ^ min (Int.toNat 48) IntKind.u64.bits) - 1)) | _ => BitVec.ofInt IntKind.u64.bits (Int.ofNat n) &&& ~~~BitVec.ofInt IntKind.u64.bits (IntKind.u64.wrap (IntKind.u64.wrap (1 * 2 ^ min (Int.toNat 48) IntKind.u64.bits) - 1))).toNat % ((2 : Int) ^ IntKind.u64.bits).natAbs)))) (AV.int IntKind.u64 (Int.ofNat n')), Qst.val (some (AV.int IntKind.u64 (Int.ofNat (n' * 2 ^ min (Int.toNat 16) IntKind.u64.bits % ((2 : Int) ^ IntKind.u64.bits).natAbs)))) (AV.int IntKind.u64 (Int.ofNat n2)), Qst.val (some (AV.int IntKind.u64 (Int.ofNat ((match BinOp.or with | BinOp.and => BitVec.ofInt IntKind.u64.bits (Int.ofNat w2) &&& BitVec.ofInt IntKind.u64.bits (Int.ofNat n2) | BinOp.or => BitVec.ofInt IntKind.u64.bits (Int.ofNat w2) ||| BitVec.ofInt IntKind.u64.bits (Int.ofNat n2) | BinOp.xor => BitVec.ofInt IntKind.u64.bits (Int.ofNat w2) ^^^ BitVec.ofInt IntKind.u64.bits (Int.ofNat n2) | _ => BitVec.ofInt IntKind.u64.bits (Int.ofNat w2) &&& ~~~BitVec.ofInt IntKind.u64.bits (Int.ofNat n2)).toNat % ((2 : Int) ^ IntKind.u64.bits).natAbs)))) (AV.int IntKind.u64 (Int.ofNat w3))]) := by kernel_rfl
theorem cz_lt (a : Nat) : cz a ≤ 3 := by unfold cz; split <;> omega
theorem ph_call (a b c n : Nat) (hb : b < 256) (hc : c < 256) (hn : n < 18446744073709551616) (s : AS) (hG : hasG s G = true) : Sound Tryz.prog (.call 28 [.agg (phC a b c n)] s) ⟨.ret, [.int .u64 (Int.ofNat (ofp a b c n))], s⟩ := by
  have hz := cz_lt a
  have e0 : some (AV.int .u64 (Int.ofNat (cz a % 2 ^ 3))) = some (AV.int .u64 (Int.ofNat (cz a))) := by rw [show cz a % 2 ^ 3 = cz a from by omega]
  have e1 : some (AV.int .u64 (Int.ofNat (cz a * 2 ^ 0))) = some (AV.int .u64 (Int.ofNat (cz a))) := by rw [Nat.pow_zero, Nat.mul_one]
  have e2 : some (AV.int .u64 (Int.ofNat (0 + 2 ^ 0 * cz a))) = some (AV.int .u64 (Int.ofNat (cz a))) := by rw [Nat.pow_zero, Nat.one_mul, Nat.zero_add]
  have q2 := w_or 0 (cz a) 0 (by omega) (by omega) (by omega)
  rw [Nat.pow_zero, Nat.mul_one, Nat.one_mul, Nat.zero_add] at q2
  refine Sound.pure (G := G) (runX_sound mixed none_sound (phase_run a b c n (cz a) (b % 2 ^ 3) (c % 2 ^ 3) (n % 2 ^ 48) (b % 2 ^ 3 * 2 ^ 3) (c % 2 ^ 3 * 2 ^ 6) (n % 2 ^ 48 * 2 ^ 16) (cz a + 2 ^ 3 * (b % 2 ^ 3)) (cz a + 2 ^ 3 * (b % 2 ^ 3) + 2 ^ 6 * (c % 2 ^ 3)) (ofp a b c n)) ⟨wph_call _ _, w_conv .u64 _ _ nat64 (by omega), (w_and _ 3 (by omega) (by omega)).trans e0, (w_shl _ 0 (by omega) (by omega)).trans e1, q2,
    w_conv .u64 _ _ nat64 (by omega), w_and _ 3 (by omega) (by omega), w_shl _ 3 (by omega) (by omega), w_or _ _ 3 (by omega) (by omega) (by omega),
    w_conv .u64 _ _ nat64 (by omega), w_and _ 3 (by omega) (by omega), w_shl _ 6 (by omega) (by omega), w_or _ _ 6 (by omega) (by omega) (by omega),
    w_and _ 48 hn (by omega), w_shl _ 16 (by omega) (by omega), ?_, trivial⟩) (by kernel_rfl) rfl rfl hG
  refine (w_or _ _ 16 (by omega) (by omega) (by omega)).trans ?_
  unfold ofp
  rw [show cz a + 2 ^ 3 * (b % 2 ^ 3) + 2 ^ 6 * (c % 2 ^ 3) + 2 ^ 16 * (n % 2 ^ 48) = cz a + 8 * (b % 8) + 64 * (c % 8) + 65536 * (n % 281474976710656) from by omega]
theorem ofp_lt (a b c n : Nat) : ofp a b c n < 18446744073709551616 := by
  have := cz_lt a
  unfold ofp
  omega
noncomputable def modeR (z : Nat) : Option (List AV × List Qst) := (runX Tryz.prog none_ 60 7 (.call 7 [u8 z] (startS Tryz.prog [])) []).map (fun x => (x.1.ts, x.2.2))
def modeB : Option (List AV × List Qst) → Bool
  | some ([.agg [.int .u8 (.ofNat _), .int .u8 (.ofNat b), .int .u8 (.ofNat c), .int .u64 (.ofNat n)]], []) => Nat.blt b 256 && (Nat.blt c 256 && Nat.blt n 18446744073709551616)
  | _ => false
def upto (f : Nat → Bool) : Nat → Bool
  | 0 => true
  | n + 1 => f n && upto f n
theorem upto_ok {f : Nat → Bool} : ∀ {n : Nat}, upto f n = true → ∀ k, k < n → f k = true
  | 0, _, k, hk => absurd hk (Nat.not_lt_zero k)
  | n + 1, h, k, hk => by
    simp only [upto, Bool.and_eq_true] at h
    by_cases e : k = n
    · rw [e]; exact h.1
    · exact upto_ok h.2 k (by omega)
theorem mode_all : upto (fun z => modeB (modeR z)) 256 = true := by kernel_rfl
theorem mode_ok {z : Nat} (hz : z < 256) : ∃ a b c n, b < 256 ∧ c < 256 ∧ n < 18446744073709551616 ∧ (Qst.pure [] 7 [u8 z] (.agg (phC a b c n))).ok Tryz.prog := by
  have h := upto_ok mode_all z hz
  generalize hr : modeR z = r at h
  unfold modeB at h
  split at h
  · rename_i a b c n
    simp only [Bool.and_eq_true] at h
    refine ⟨a, b, c, n, Nat.blt_eq ▸ h.1, Nat.blt_eq ▸ h.2.1, Nat.blt_eq ▸ h.2.2, ?_⟩
    exact pure0 (q := []) hr trivial rfl rfl rfl
  · cases h
end Go.Proofs.YtofbdgmknfbkfaaGreatDoor.nodesLife
namespace Go.Proofs.YtofbdgmknfbkfaaGreatDoor.nodesLife
open Go Go.Mini
/-! ### the memory of two segments, made: a Push's steps, at canonical names -/
def puO (l h : Nat) (z : Int) : AObj := .cells false [i64 (Int.ofNat l), u64 h, i64 z]
def pAq : List AV := [.ptr 9 0, .ptr 7 0]
def g_q (l h l' h' : Nat) (z : Int) (d : Bool) (decs : List Dec) (qs : List QI) : GD := ⟨27, pAq, [(9, puO l h z)], [(9, puO l' h' z)], [], [], .bool d, decs, qs⟩
section
variable (M M2 : PM) (O O2 : AObj) (h h2 t t3 : Nat) (z x : Int)
def g_q1 : GD := g_q 1 0 2 h z false [.call 89 1 3 (u64 h) (tfL M2), .pure 89 2 4 G (.tuple [i64 x, u64 t])] [mld M O aF h M2, ashQ h x t]
def g_q2 : GD := g_q 2 h 3 h z false [.pure 52 0 5 G (.tuple [i64 x, u64 t]), .pure 52 1 7 G (u64 h2), .call 52 1 8 undefA (tfS M2 O2)] [ashQ h x t, headQ x 0 h2, mst M O (9, z, 2) h2 M2 O2]
def g_q3 : GD := g_q 3 h 0 h z true [.pure 93 1 4 G (.tuple [i64 x, u64 t]), .val 93 2 8 (u64 t3), .pure 93 2 9 G (u64 h2), .call 93 2 10 (.bool true) (tfS M2 O2)]
  [ashQ h x t, vQ (.int .u64 (Int.ofNat ((t + 1) % ((2 : Int) ^ IntKind.u64.bits).natAbs))) (u64 t3), headQ z t3 h2, mcs M O aF h h2 true M2 O2]
theorem k_q1 : GdOk (g_q1 M M2 O h t z x) M M2 O O := ⟨by kernel_rfl, by kernel_rfl⟩
theorem k_q2 : GdOk (g_q2 M M2 O O2 h h2 t z x) M M2 O O2 := ⟨by kernel_rfl, by kernel_rfl⟩
theorem k_q3 : GdOk (g_q3 M M2 O O2 h h2 t t3 z x) M M2 O O2 := ⟨by kernel_rfl, by kernel_rfl⟩
end
def p3 (x b : Nat) : Nat := if b = 7 then 3 else if b = 8 then 2 else if b = 9 then x else b
def bSt (M : PM) (s : AS) : AS := (s.set 3 (.cells false (M.C (.map 2)))).set 2 (mapO M.ms)
theorem q_put {l h l' h' : Nat} {z : Int} {d : Bool} {decs : List Dec} {qs : List QI} {M M2 : PM} (hk : GdOk (g_q l h l' h' z d decs qs) M M2 (mapO M.ms) (mapO M2.ms)) (hq : QOk qs) (s : AS) {x : Nat} (hx : 4 ≤ x)
    (h0 : s.get 0 = some (.cells true lf)) (h1 : s.get 1 = some (.cells true wf)) (h3 : s.get 3 = some (.cells false (M.C (.map 2)))) (h2 : s.get 2 = some (mapO M.ms)) (hxo : s.get x = some (puO l h z)) :
    Sound Tryz.prog (.call 27 [.ptr x 0, .ptr 3 0] s) ⟨.ret, [.bool d], (bSt M2 s).set x (puO l' h' z)⟩ := by
  have hL := hk.1
  unfold GD.L GD.R at hL
  cases hr : (g_q l h l' h' z d decs qs).run (mo7 M) (mapO M.ms) with
  | none => rw [hr] at hL; cases hL
  | some y =>
    rw [hr] at hL
    obtain ⟨⟨e, ts, s1⟩, ds', q'⟩ := y
    simp only [Option.some.injEq, GD.lk, GD.want, Prod.mk.injEq] at hL
    obtain ⟨e1, ⟨e7, e8⟩, e2, -, e5, e6⟩ := hL
    have hQ : Qsts Tryz.prog q' := qsts_of e5 e6 hq
    have e9 : s1.get 9 = some (puO l' h' z) := (List.cons.inj e2).1
    have e1 : ts = [.bool d] := e1
    subst e1
    have hrun := runX_sound mixed none_sound hr hQ
    have o7 : objAt s1 7 = .cells false (M2.C (.map 8)) := by simp [objAt, e7, mo7]
    have o8 : objAt s1 8 = mapO M2.ms := by simp [objAt, e8]
    have o9 : objAt s1 9 = puO l' h' z := by simp [objAt, e9]
    have x9 : p3 x 9 = x := rfl
    have hp := Sound.putFG (P := Tryz.prog) (f := 27) (bs0 := [(7, mo7 M), (8, mapO M.ms), (9, puO l h z)]) (Fz := GF) (n0 := 5) (nx0 := 24) hrun (p3 x) (fun g hg => ⟨by rw [glN2] at hg; omega, by rw [glN2] at hg; unfold p3; rw [if_neg (by omega), if_neg (by omega), if_neg (by omega)]⟩) [] s
      (fun w hw => by
        simp only [GF, G2, List.mem_cons, List.not_mem_nil, or_false] at hw
        rcases hw with rfl | rfl
        · exact ⟨by decide, show 0 ∉ [7, 8, 9] by decide, rfl, ⟨true, h0⟩, fun b hb => by
            simp only [List.map_cons, List.map_nil, List.mem_cons, List.not_mem_nil, or_false] at hb
            rcases hb with rfl | rfl | rfl
            · show 3 ≠ 0; decide
            · show 2 ≠ 0; decide
            · show x ≠ 0; omega⟩
        · exact ⟨by decide, show 1 ∉ [7, 8, 9] by decide, rfl, ⟨true, h1⟩, fun b hb => by
            simp only [List.map_cons, List.map_nil, List.mem_cons, List.not_mem_nil, or_false] at hb
            rcases hb with rfl | rfl | rfl
            · show 3 ≠ 1; decide
            · show 2 ≠ 1; decide
            · show x ≠ 1; omega⟩)
      ⟨⟨show 7 < 24 by decide, rfl, rfl, rfl, h3, .inl (by rw [o7]; rfl), by rw [o7]; rfl⟩, ⟨show 8 < 24 by decide, rfl, mapO_names _ _, rfl, by rw [mapO_ren]; exact h2, .inl (by rw [o8]; rfl), by rw [o8]; exact mapO_names _ _⟩, ⟨show 9 < 24 by decide, rfl, rfl, rfl, hxo, .inl (by rw [o9]; rfl), by rw [o9]; rfl⟩, trivial⟩
      (fun b hb c hc e => by
        simp only [List.map_cons, List.map_nil, List.mem_cons, List.not_mem_nil, or_false] at hb hc
        rcases hb with rfl | rfl | rfl <;> rcases hc with rfl | rfl | rfl <;> first | rfl | (exfalso; revert e; show ¬ (3 = 2); decide) | (exfalso; revert e; show ¬ (2 = 3); decide) | (have e : 3 = x := e; omega) | (have e : 2 = x := e; omega) | (have e : x = 3 := e; omega) | (have e : x = 2 := e; omega))
      (show [7, 8, 9].Nodup by decide) List.nodup_nil (fun _ hb => by cases hb) rfl rfl
    simp only [List.map_cons, List.map_nil, setL, pushL, o7, o8, o9, mapO_ren] at hp
    exact hp
/-! ### Begin, of two segments -/
def preZ (z : Nat) (M : PM) : PM := if z % 8 = 0 then M.store (6, Int.ofNat (z / 8), 0) 1 else M
def wOf (M : PM) : Nat := getW M.ms aF
def aftZ (z : Nat) (M : PM) : PM := ((M.load aF).store (9, Int.ofNat z, 2) (hdN (slI (wOf M)) 0)).cas aF (wOf M) (hdN (Int.ofNat z) (tgN (wOf M) + 1))
def mBz : Nat → PM
  | 0 => ⟨[], 0, 0, (0, 0, 0), 0, 0, false⟩
  | z + 1 => aftZ z (preZ z (mBz z))
def mS (z : Nat) : PM := preZ z (mBz z)
def wZ (z : Nat) : Nat := wOf (mS z)
def m1 (z : Nat) : PM := (mS z).load aF
def m2 (z : Nat) : PM := (m1 z).store (9, Int.ofNat z, 2) (hdN (slI (wZ z)) 0)
def m3 (z : Nat) : PM := (m2 z).cas aF (wZ z) (hdN (Int.ofNat z) (tgN (wZ z) + 1))
def bTo (M : PM) (z l h : Nat) (s : AS) : AS := (bSt M s).set (4 + z) (puO l h (Int.ofNat z))
def bSee (M : PM) (z l h : Nat) : List (Nat × AObj) := [(0, .cells true lf), (1, .cells true wf), (3, .cells false (M.C (.map 2))), (2, mapO M.ms), (4 + z, puO l h (Int.ofNat z))]
def dZ (z : Nat) : List Dec := (if z % 8 = 0 then [.call 5 5 3 undefA (bSt (mS z))] else []) ++
  [.call 5 10 2 (.bool false) (bTo (m1 z) z 2 (wZ z)), .call 5 11 2 (.bool false) (bTo (m2 z) z 3 (wZ z)), .call 5 12 2 (.bool true) (bTo (m3 z) z 0 (wZ z))]
def qA (z : Nat) : List QI := if z % 8 = 0 then [.call 8 [.ptr 3 0, .agg (ak (6, Int.ofNat (z / 8), 0)), u64 1] undefA (bSt (mS z)) [(3, .cells false ((mBz z).C (.map 2))), (2, mapO (mBz z).ms)]] else []
def qB (z : Nat) : List QI := [.call 27 [.ptr (4 + z) 0, .ptr 3 0] (.bool false) (bTo (m1 z) z 2 (wZ z)) (bSee (mS z) z 1 0), .call 27 [.ptr (4 + z) 0, .ptr 3 0] (.bool false) (bTo (m2 z) z 3 (wZ z)) (bSee (m1 z) z 2 (wZ z)),
  .call 27 [.ptr (4 + z) 0, .ptr 3 0] (.bool true) (bTo (m3 z) z 0 (wZ z)) (bSee (m2 z) z 3 (wZ z))]
def dBs : Nat → Nat → List Dec
  | _, 0 => []
  | z, n + 1 => dZ z ++ dBs (z + 1) n
def qBs : Nat → Nat → List QI
  | _, 0 => []
  | z, n + 1 => qA z ++ (qB z ++ qBs (z + 1) n)
def MB : PM := ⟨[((6, 0, 0), 1), ((9, 0, 2), 0), ((0, 0, 0), 1048592), ((9, 1, 2), 1), ((9, 2, 2), 2), ((9, 3, 2), 3), ((9, 4, 2), 4), ((9, 5, 2), 5), ((9, 6, 2), 6), ((9, 7, 2), 7), ((6, 1, 0), 1), ((9, 8, 2), 8), ((9, 9, 2), 9), ((9, 10, 2), 10), ((9, 11, 2), 11), ((9, 12, 2), 12), ((9, 13, 2), 13), ((9, 14, 2), 14), ((9, 15, 2), 15)], 50, 3, (0, 0, 0), 983055, 1048592, true⟩
noncomputable def bgR : Option (Res × List Dec × List Qst) := runX Tryz.prog none_ 90 5 (.call 5 [i64 2] (canF [] GF 2 2)) (dBs 0 16)
abbrev BL : Type := List AV × Option AObj × Option AObj × List Qst × List (Option AObj)
noncomputable def bgL : Option BL := match bgR with
  | some x => some (x.1.ts, x.1.s.get 3, x.1.s.get 2, x.2.2, seeL (qBs 0 16) x.2.2)
  | none => none
noncomputable def bgE : Option BL := match bgR with
  | some x => some ([.tuple [.ptr 3 0, .bool true]], some (.cells false (MB.C (.map 2))), some (mapO MB.ms), mkQ (qBs 0 16) x.2.2, seeR (qBs 0 16))
  | none => some ([], none, none, [], [])
theorem bg_run : bgL = bgE := by kernel_rfl
theorem bz_ok : upto (fun z => Nat.blt (wZ z) 18446744073709551616 && ((m2 z).casd aF (wZ z) && (decide (getW (mS z).ms aF = wZ z)))) 16 = true := by kernel_rfl
theorem qok_app : ∀ {l l2 : List QI}, QOk l → QOk l2 → QOk (l ++ l2)
  | [], _, _, h => h
  | .fix _ :: _, _, h, h2 => ⟨h.1, qok_app h.2 h2⟩
  | .call _ _ _ _ _ :: _, _, h, h2 => ⟨h.1, qok_app h.2 h2⟩
  | .ld _ _ _ _ :: _, _, h, h2 => ⟨h.1, qok_app h.2 h2⟩
  | .app _ _ _ _ _ _ _ _ :: _, _, h, h2 => ⟨h.1, qok_app h.2 h2⟩
  | .lk _ _ _ _ _ _ :: _, _, h, h2 => ⟨h.1, qok_app h.2 h2⟩
  | .upd _ _ _ _ _ _ :: _, _, h, h2 => ⟨h.1, qok_app h.2 h2⟩
theorem qa_ok (z : Nat) : QOk (qA z) := by
  unfold qA mS preZ
  by_cases h : z % 8 = 0
  · rw [if_pos h, if_pos h]
    exact ⟨fun s hs => pstore_at (b := 3) (bm := 2) (m := mBz z) (hs (3, .cells false ((mBz z).C (.map 2))) (by simp)) (hs (2, mapO (mBz z).ms) (by simp)) (6, Int.ofNat (z / 8), 0) (show (0 : Int) ≤ 6 by decide) 1, trivial⟩
  · rw [if_neg h]
    trivial
theorem see_put {l h l' h' z : Nat} {d : Bool} {decs : List Dec} {qs : List QI} {M M2 : PM} (hk : GdOk (g_q l h l' h' (Int.ofNat z) d decs qs) M M2 (mapO M.ms) (mapO M2.ms)) (hq : QOk qs) {L : List QI} (hl : QOk L) :
    QOk (.call 27 [.ptr (4 + z) 0, .ptr 3 0] (.bool d) (bTo M2 z l' h') (bSee M z l h) :: L) :=
  ⟨fun s hs => q_put hk hq s (by omega) (hs (0, .cells true lf) (by simp [bSee])) (hs (1, .cells true wf) (by simp [bSee])) (hs (3, .cells false (M.C (.map 2))) (by simp [bSee])) (hs (2, mapO M.ms) (by simp [bSee])) (hs (4 + z, puO l h (Int.ofNat z)) (by simp [bSee])), hl⟩
theorem qb_ok {z : Nat} (hz : z < 16) : QOk (qB z) := by
  have h := upto_ok bz_ok z hz
  simp only [Bool.and_eq_true, decide_eq_true_eq] at h
  obtain ⟨h1, h2, h3⟩ := h
  have hw : wZ z < 18446744073709551616 := by rw [Nat.blt_eq] at h1; exact h1
  have hzR : slR (Int.ofNat z) := .inr ⟨by simp only [Int.ofNat_eq_natCast]; omega, by simp only [Int.ofNat_eq_natCast]; omega⟩
  refine see_put (k_q1 (mS z) (m1 z) (mapO (mS z).ms) (wZ z) (tgN (wZ z)) (Int.ofNat z) (slI (wZ z))) ?_ (see_put (k_q2 (m1 z) (m2 z) (mapO (m1 z).ms) (mapO (m2 z).ms) (wZ z) (hdN (slI (wZ z)) 0) (tgN (wZ z)) (Int.ofNat z) (slI (wZ z))) ?_ (see_put (k_q3 (m2 z) (m3 z) (mapO (m2 z).ms) (mapO (m3 z).ms) (wZ z) (hdN (Int.ofNat z) (tgN (wZ z) + 1)) (tgN (wZ z)) (tgN (wZ z) + 1) (Int.ofNat z) (slI (wZ z))) ?_ trivial))
  · exact mld_ok' h3 (ash_ok hw trivial)
  · exact ash_ok hw (head_ok (slI_R _) (by decide) (mst_ok (a := (9, Int.ofNat z, 2)) (show (0 : Int) ≤ 9 by decide) trivial))
  · exact ash_ok hw (v_ok (tg_ok hw) (head_ok hzR (tgN_lt _ hw) (mcs_ok (by decide) h2 trivial)))
theorem qbs_ok : ∀ (n z : Nat), z + n ≤ 16 → QOk (qBs z n)
  | 0, _, _ => trivial
  | n + 1, z, h => qok_app (qa_ok z) (qok_app (qb_ok (by omega)) (qbs_ok n (z + 1) (by omega)))
theorem bg_all : ∃ e s1, Sound Tryz.prog (.call 5 [i64 2] (canF [] GF 2 2)) ⟨e, [.tuple [.ptr 3 0, .bool true]], s1⟩ ∧ s1.get 3 = some (.cells false (MB.C (.map 2))) ∧ s1.get 2 = some (mapO MB.ms) := by
  have h := bg_run
  unfold bgL bgE at h
  cases hr : bgR with
  | none => rw [hr] at h; cases h
  | some x =>
    rw [hr] at h
    obtain ⟨⟨e, ts, s1⟩, ds', q'⟩ := x
    simp only [Option.some.injEq, Prod.mk.injEq] at h
    obtain ⟨rfl, h3, h2, h5, h6⟩ := h
    exact ⟨e, s1, runX_sound mixed none_sound hr (qsts_of h5 h6 (qbs_ok 16 0 (by decide))), h3, h2⟩
theorem bg_at (s : AS) (hs0 : ∃ ro, s.get 0 = some (.cells ro lf)) (hs1 : ∃ ro, s.get 1 = some (.cells ro wf)) : Sound Tryz.prog (.call 5 [i64 2] s) ⟨.ret, [.tuple [.ptr s.nx 0, .bool true]], (s.push (.cells false (MB.C (.map (s.nx + 1))))).push (mapO MB.ms)⟩ := by
  obtain ⟨e, s1, h, g3, g2⟩ := bg_all
  generalize MB = m at *
  have e3 : objAt s1 3 = .cells false (m.C (.map 2)) := by simp [objAt, g3]
  have e2 : objAt s1 2 = mapO m.ms := by simp [objAt, g2]
  have hp := Sound.putFG (P := Tryz.prog) (f := 5) (bs0 := []) (Fz := GF) (n0 := 2) (nx0 := 2) h (fun b => b) (fun g hg => ⟨by rw [glN2] at hg; omega, rfl⟩) [3, 2] s
    (fun x hx => by
      simp only [GF, G2, List.mem_cons, List.not_mem_nil, or_false] at hx
      rcases hx with rfl | rfl
      · exact ⟨by decide, by simp, rfl, hs0, fun b hb => by cases hb⟩
      · exact ⟨by decide, by simp, rfl, hs1, fun b hb => by cases hb⟩) trivial (fun _ hb => by cases hb) List.nodup_nil (by decide)
    (fun b hb => by
      simp only [List.mem_cons, List.not_mem_nil, or_false] at hb
      rcases hb with rfl | rfl
      · rw [e3]; exact ⟨by decide, rfl, rfl⟩
      · rw [e2]; exact ⟨by decide, rfl, mapO_names _ _⟩) rfl rfl
  simp only [List.map_nil, List.map_cons, setL, pushL, e3, e2, mapO_ren] at hp
  exact hp
end Go.Proofs.YtofbdgmknfbkfaaGreatDoor.nodesLife
