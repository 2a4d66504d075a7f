/- A header put together, read, and its lines, each by itself. Conditions: those that each theorem names, and no others. -/
import Derived.Test.YtipadnlhcnmgaaaDoorShade3
namespace Go.Proofs.YtipadnlhcnmgaaaDoor.nodesShadow
open Go Go.Mini
theorem or_nat (x y : Nat) (hx : x < 18446744073709551616) (hy : y < 18446744073709551616) : (BitVec.ofInt 64 (Int.ofNat x) ||| BitVec.ofInt 64 (Int.ofNat y)).toNat = x ||| y := by
  have h1 : ∀ z : Nat, z < 18446744073709551616 → (BitVec.ofInt 64 (Int.ofNat z)).toNat = z := by
    intro z hz
    simp only [Int.ofNat_eq_natCast, BitVec.ofInt_natCast, BitVec.toNat_ofNat]
    exact Nat.mod_eq_of_lt hz
  rw [BitVec.toNat_or, h1 x hx, h1 y hy]
theorem maskK (k : Nat) (hk : k < 64) : IntKind.u64.wrap (IntKind.u64.wrap (1 * 2 ^ min (Int.toNat (Int.ofNat k)) IntKind.u64.bits) - 1) = Int.ofNat (2 ^ k - 1) := by
  have hp : 2 ^ k < 2 ^ 64 := Nat.pow_lt_pow_right (by omega) hk
  have hp0 : 0 < 2 ^ k := Nat.pow_pos (by omega)
  rw [bits64, show min (Int.toNat (Int.ofNat k)) 64 = k from by simp only [Int.ofNat_eq_natCast, Int.toNat_natCast]; omega]
  have h3 : (1 : Int) * 2 ^ k = Int.ofNat (2 ^ k) := by simp
  rw [h3, u64_wrap (x := Int.ofNat (2 ^ k)) (by simp only [Int.ofNat_eq_natCast]; omega) (by simp only [Int.ofNat_eq_natCast]; omega),
    u64_wrap (x := Int.ofNat (2 ^ k) - 1) (by simp only [Int.ofNat_eq_natCast]; omega) (by simp only [Int.ofNat_eq_natCast]; omega)]
  simp only [Int.ofNat_eq_natCast]
  omega
theorem and_maskK (x k : Nat) (hx : x < 18446744073709551616) (hk : k < 64) :
    (BitVec.ofInt IntKind.u64.bits (Int.ofNat x) &&& BitVec.ofInt IntKind.u64.bits (IntKind.u64.wrap (IntKind.u64.wrap (1 * 2 ^ min (Int.toNat (Int.ofNat k)) IntKind.u64.bits) - 1))).toNat = x % 2 ^ k := by
  rw [maskK k hk]
  exact mask_and x k hx (by omega)
theorem header_call (s g : Nat) (h4 : s ≤ 4) (hg' : g < 4294967296) (st : AS) (hG : hasG st G = true) : Sound Tryd.prog (.call 27 [.int .u8 (Int.ofNat s), .int .u32 (Int.ofNat g)] st) ⟨.ret, [.int .u64 (Int.ofNat (mkw s g))], st⟩ := by
  refine Sound.pure (G := G) (runX_sound mixed none_sound (header_run s g) ⟨?_, ?_, ?_, ?_, ?_, ?_, ?_, ?_, ?_, trivial⟩) (by kernel_rfl) rfl rfl hG
  · show some _ = some _
    rw [if_neg (by simp only [Int.ofNat_eq_natCast]; omega)]
  · show some _ = some _
    rw [nat64, Nat.mod_eq_of_lt (by omega)]
  · refine Eq.trans (congrArg (fun n : Nat => some (AV.int IntKind.u64 (Int.ofNat (n % ((2 : Int) ^ IntKind.u64.bits).natAbs)))) (and_maskK s 3 (by omega) (by omega))) ?_
    rw [nat64, show s % 2 ^ 3 % 18446744073709551616 = s from by omega]
  · refine Eq.trans (b := some (AV.int .u64 (Int.ofNat (s * 2 ^ 0 % ((2 : Int) ^ IntKind.u64.bits).natAbs)))) rfl ?_
    rw [nat64, Nat.pow_zero, Nat.mul_one, Nat.mod_eq_of_lt (by omega)]
  · refine Eq.trans (congrArg (fun n : Nat => some (AV.int IntKind.u64 (Int.ofNat (n % ((2 : Int) ^ IntKind.u64.bits).natAbs)))) (or_nat 0 s (by omega) (by omega))) ?_
    rw [nat64, Nat.zero_or, Nat.mod_eq_of_lt (by omega)]
  · show some _ = some _
    rw [nat64, Nat.mod_eq_of_lt (by omega)]
  · refine Eq.trans (congrArg (fun n : Nat => some (AV.int IntKind.u64 (Int.ofNat (n % ((2 : Int) ^ IntKind.u64.bits).natAbs)))) (and_maskK g 32 (by omega) (by omega))) ?_
    rw [nat64, show g % 2 ^ 32 % 18446744073709551616 = g from by omega]
  · refine Eq.trans (b := some (AV.int .u64 (Int.ofNat (g * 2 ^ 3 % ((2 : Int) ^ IntKind.u64.bits).natAbs)))) rfl ?_
    rw [nat64, show g * 2 ^ 3 % 18446744073709551616 = 8 * g from by omega]
  · refine Eq.trans (congrArg (fun n : Nat => some (AV.int IntKind.u64 (Int.ofNat (n % ((2 : Int) ^ IntKind.u64.bits).natAbs)))) (or_nat s (8 * g) (by omega) (by omega))) ?_
    have : s ||| 8 * g = mkw s g := by
      have := Nat.two_pow_add_eq_or_of_lt (i := 3) (b := s) (by omega) g
      rw [Nat.or_comm, show 8 * g = 2 ^ 3 * g from rfl, ← this]
      unfold mkw
      omega
    rw [nat64, this, Nat.mod_eq_of_lt (by unfold mkw; omega)]
theorem mkw_lt {s g : Nat} (h4 : s ≤ 4) (hg' : g < 4294967296) : mkw s g < 18446744073709551616 := by unfold mkw; omega
theorem headT_mkw {s g : Nat} (h4 : s ≤ 4) (hg' : g < 4294967296) : headT (mkw s g) = .tuple [.int .u8 (Int.ofNat s), .int .u32 (Int.ofNat g)] := by
  unfold headT
  rw [hs_mkw h4, hg_mkw h4 hg']
theorem read_call (s g : Nat) (h4 : s ≤ 4) (hg' : g < 4294967296) (st : AS) (hG : hasG st G = true) : Sound Tryd.prog (.call 96 [.int .u64 (Int.ofNat (mkw s g))] st) ⟨.ret, [hd s g], st⟩ := by
  refine Sound.pure (G := G) (runX_sound mixed none_sound (read_run (mkw s g) s g) ⟨?_, trivial⟩) (by kernel_rfl) rfl rfl hG
  have := phead (mkw s g) (mkw_lt h4 hg')
  rw [headT_mkw h4 hg'] at this
  exact this _ (by kernel_rfl)
theorem may_call (s g most : Nat) (h3 : s ≤ 3) (hg' : g ≤ most) (hm : most < 4294967296) (st : AS) (hG : hasG st G = true) : Sound Tryd.prog (.call 94 [.int .u64 (Int.ofNat (mkw s g)), .int .u32 (Int.ofNat most)] st) ⟨.ret, [.bool true], st⟩ :=
  Sound.pure (G := G) (runX_sound mixed none_sound (may_run (mkw s g) s g most) ⟨read_call s g (by omega) (by omega) _ (by kernel_rfl), header_call s g (by omega) (by omega) _ (by kernel_rfl), by simp [Qst.ok], by simp [Qst.ok]; omega, by simp [Qst.ok]; omega, trivial⟩) (by kernel_rfl) rfl rfl hG
theorem beh_no_call (c f t a s g most : Nat) (h : s ≠ f) (st : AS) (hG : hasG st G = true) : Sound Tryd.prog (.call 95 [ln c f t a, hd s g, .int .u32 (Int.ofNat most)] st) ⟨.ret, [.tuple [hd 0 0, .bool false]], st⟩ :=
  Sound.pure (G := G) (runX_sound mixed none_sound (beh_no c f t a s g most) ⟨by simp [Qst.ok]; omega, trivial⟩) (by kernel_rfl) rfl rfl hG
theorem beh_any_call (c t s g most : Nat) (st : AS) (hG : hasG st G = true) : Sound Tryd.prog (.call 95 [ln c s t 0, hd s g, .int .u32 (Int.ofNat most)] st) ⟨.ret, [.tuple [hd t g, .bool true]], st⟩ :=
  Sound.pure (G := G) (runX_sound mixed none_sound (beh_any c s t s g most) ⟨by simp [Qst.ok], trivial⟩) (by kernel_rfl) rfl rfl hG
theorem beh_young_call (c t s g most : Nat) (h : g < most) (hm : most < 4294967296) (st : AS) (hG : hasG st G = true) : Sound Tryd.prog (.call 95 [ln c s t 1, hd s g, .int .u32 (Int.ofNat most)] st) ⟨.ret, [.tuple [hd t (g + 1), .bool true]], st⟩ :=
  Sound.pure (G := G) (runX_sound mixed none_sound (beh_young c s t s g most) ⟨by simp [Qst.ok], by simp [Qst.ok]; omega, by simp only [Qst.ok]; rw [nat32, Nat.mod_eq_of_lt (by omega)], trivial⟩) (by kernel_rfl) rfl rfl hG
theorem beh_last_call (c t s g most : Nat) (h : g < most) (st : AS) (hG : hasG st G = true) : Sound Tryd.prog (.call 95 [ln c s t 2, hd s g, .int .u32 (Int.ofNat most)] st) ⟨.ret, [.tuple [hd 0 0, .bool false]], st⟩ :=
  Sound.pure (G := G) (runX_sound mixed none_sound (beh_last c s t s g most) ⟨by simp [Qst.ok], by simp [Qst.ok]; omega, trivial⟩) (by kernel_rfl) rfl rfl hG
end Go.Proofs.YtipadnlhcnmgaaaDoor.nodesShadow
