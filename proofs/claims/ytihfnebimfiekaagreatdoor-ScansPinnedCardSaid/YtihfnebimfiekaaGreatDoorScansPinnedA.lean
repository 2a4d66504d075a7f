/- The law ScansPinned, turned into a function of its bytes; no condition but those that its theorems name. -/
import Derived.Test.YtihfnebimfiekaaGreatDoorFast2
import Derived.KernelRfl
import Derived.Test.YtihfnebimfiekaaGreatDoorChecked
namespace Go.Proofs.YtihfnebimfiekaaGreatDoor.leaf.SP
open Go Go.Mini Go.Mini.Fast

/-! ### the law, turned -/
def fns : List Nat := [4, 5, 6, 7, 8, 9, 10, 11, 12, 13, 14, 15, 16, 17, 18, 19, 20, 21, 22, 23, 24, 25, 26, 27, 28, 29, 30, 31, 32, 33, 34, 35, 36, 37, 38, 39, 40, 41, 42, 43, 44, 45, 46, 47, 48, 49, 50, 51, 52, 53, 54, 55, 56, 57, 58, 59, 60, 61, 62, 63, 64, 65, 66, 67, 68, 69, 70, 71, 72, 73, 74, 75, 76, 77, 78, 79, 80, 81, 82, 83, 84, 85, 86, 87, 88, 89, 90, 91, 92, 93, 94, 95, 96, 97, 98, 99, 100, 101, 102, 103, 104, 105, 106, 107, 108, 109, 110, 111, 112, 113, 114, 115, 116, 117, 118, 119, 120, 121, 122, 123, 124, 125, 126, 127, 128, 129, 130, 131, 132, 133, 134, 135, 136, 137, 138, 139, 140, 141, 142, 143, 144, 145, 146, 147, 148, 149, 150, 151, 152, 153, 154, 155, 156, 157, 158, 159, 160, 161, 162, 163, 164, 165, 166, 167, 168, 169, 170, 171, 172, 173, 174, 175, 176, 177, 178, 179, 180, 181, 182, 183, 184, 185, 186, 187, 188, 189, 190, 191, 192, 193, 194, 195, 196, 197, 198, 199, 200, 201, 202, 203, 204, 205, 206, 207, 208, 209, 210, 211, 212, 232, 233, 234, 235, 236, 237, 238, 239, 240, 241, 242, 243, 244, 245, 246, 247, 248, 249, 250, 251, 252, 253, 254, 255, 256, 257, 258, 259, 260, 262, 263, 264, 265, 266, 267, 268, 269, 270, 271, 273, 274, 275]
theorem fns_draw : fns.all (drawsF Tryz.prog) = true := by kernel_rfl
def M : Nat := 113824550056988816897750912726202496504404697521208352506188837278964146123659280368
theorem M_eq : M = maskL fns := by kernel_rfl
theorem hdraw : ∀ f fn c, bit M f = true → Tryz.prog.funcs[f]? = some fn → fn.body = some c → drawsC c = true := draws_of fns_draw fun _ h => mask_mem (M_eq ▸ h)
theorem hmix : Tryz.prog.follows .mixedOrders = true := by kernel_rfl
def wfW : List AV := [0,16,16,32,16,48,0,3,3,32,0,3,3,3,6,3,16,48,0,32,32,1].map fun n : Nat => .int .u64 (.ofNat n)
def GL : List (Nat × List AV) := [(0, wfW)]
noncomputable def hp0 : H := (acB 0).set (heap0) (some (.cells true wfW))
theorem gn : Tryz.prog.globals.size = 3 := by kernel_rfl
theorem hr0 : HR hp0 3 (startS Tryz.prog GL) := by
  have e : startS Tryz.prog GL = ⟨⟨GL.map fun x => (x.1, .cells true x.2), GL.length, none, []⟩, 3⟩ := by
    unfold startS
    rw [gn]
  rw [e]
  unfold hp0
  exact HR.lay (HR.none (by rfl)) (b := 0) (by decide) (by rfl)
noncomputable def lawC : Code := match Tryz.f4.body with
  | some c => c
  | none => .skip
theorem law_body : Tryz.f4.body = some lawC := by kernel_rfl
noncomputable def V0 : Nat := Nat.lor 7 (Nat.sub (vMask lawC 0) (2 ^ 19 + 2 ^ 29 + 2 ^ 32))
def L (w : Nat → Nat) : List (Nat × Vt) := [(0, .val 256 fun _ => .int .u8 (.ofNat (w 0))), (1, .val 256 fun _ => .int .u8 (.ofNat (w 1))), (2, .val 256 fun _ => .int .u8 (.ofNat (w 2)))]
theorem V_bits : bit V0 0 = true ∧ bit V0 1 = true ∧ bit V0 2 = true := by
  refine ⟨?_, ?_, ?_⟩ <;> kernel_rfl
theorem hL (w : Nat → Nat) : Known V0 (L w) := by
  intro p hp
  simp only [L, List.mem_cons, List.not_mem_nil, or_false] at hp
  rcases hp with rfl | rfl | rfl
  · exact ⟨V_bits.1, rfl⟩
  · exact ⟨V_bits.2.1, rfl⟩
  · exact ⟨V_bits.2.2, rfl⟩
noncomputable def NT : Nat := Tryz.f4.ntmps
noncomputable def ov (w : Nat → Nat) (r0 r1 r2 : Nat) (id : Nat) : Option Cx :=
  match id with
  | 1 => handX Tryz.prog NT V0 (L w) (regOf lawC 1).2.1 1 20 (.int .u8 (.ofNat r0))
  | 4 => handX Tryz.prog NT V0 (L w) (regOf lawC 4).2.1 1 30 (.int .u8 (.ofNat r1))
  | 5 => handX Tryz.prog NT V0 (L w) (regOf lawC 5).2.1 1 33 (.int .u8 (.ofNat r2))
  | _ => none
noncomputable def R0 : RecT := runF Tryz.prog M 5000 60
theorem R0_ok : RecOk Tryz.prog R0 := runF_ok hmix M 5000 hdraw 60
theorem lives_run : R0 37 [] hp0 3 (fun v _ _ => onBool v true false) = true := by kernel_rfl
theorem low : lowG Tryz.prog GL = true := by kernel_rfl
theorem lives_all : ∀ s, hasG s GL = true → Sound Tryz.prog (.call 37 [] s) ⟨.ret, [.bool true], s⟩ := lives_ok R0_ok hr0 lives_run low
noncomputable def run (w : Nat → Nat) (r0 r1 r2 : Nat) : Bool := onSome (compC Tryz.prog NT V0 (L w) (ov w r0 r1 r2) lawC) fun x =>
  x (recL R0 37 GL) 5000 env0 hp0 3 fun ex e _ _ => onRet ex (onBool ((acE 6).get e) true false)
theorem reg_ids : ((regs lawC).map (·.1)).Nodup := of_decide_eq_true (by kernel_rfl)
end Go.Proofs.YtihfnebimfiekaaGreatDoor.leaf.SP
