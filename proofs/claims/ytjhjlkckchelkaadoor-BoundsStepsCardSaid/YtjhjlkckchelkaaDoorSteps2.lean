/- Proved: the law BoundsSteps answers true for each kind but four, whatever the two numbers. -/
import Derived.Test.YtjhjlkckchelkaaDoorSteps1
namespace Go.Proofs.YtjhjlkckchelkaaDoor.boundsSteps
open Go.Mini

def isT (r : Option Res) : Bool := match r with
  | some ⟨_, [.bool true], _⟩ => true
  | _ => false
theorem isT_sound {t : Go.Mini.Task} {n : Nat} (h : isT (runH Tryd.prog hk n t) = true) : ∃ e s1, Sound Tryd.prog t ⟨e, [.bool true], s1⟩ := by
  unfold isT at h
  split at h
  · rename_i e s1 hr
    exact ⟨e, s1, runH_sound mixed hk_sound _ _ _ hr⟩
  · cases h
def hard (k : Nat) : Bool := Nat.ble 3 k && Nat.ble k 6

noncomputable def one (x y : Int) (k : Nat) : Bool := hard k || isT (runH Tryd.prog hk 400 (.call 4 [.int .u8 (Int.ofNat k), .int .i64 x, .int .i64 y] (startS Tryd.prog G)))
theorem easy0 (x y : Int) : ((List.range' 0 16).all (one x y)) = true := by kernel_rfl
theorem easy1 (x y : Int) : ((List.range' 16 16).all (one x y)) = true := by kernel_rfl
theorem easy2 (x y : Int) : ((List.range' 32 16).all (one x y)) = true := by kernel_rfl
theorem easy3 (x y : Int) : ((List.range' 48 16).all (one x y)) = true := by kernel_rfl
theorem easy4 (x y : Int) : ((List.range' 64 16).all (one x y)) = true := by kernel_rfl
theorem easy5 (x y : Int) : ((List.range' 80 16).all (one x y)) = true := by kernel_rfl
theorem easy6 (x y : Int) : ((List.range' 96 16).all (one x y)) = true := by kernel_rfl
theorem easy7 (x y : Int) : ((List.range' 112 16).all (one x y)) = true := by kernel_rfl
theorem easy8 (x y : Int) : ((List.range' 128 16).all (one x y)) = true := by kernel_rfl
theorem easy9 (x y : Int) : ((List.range' 144 16).all (one x y)) = true := by kernel_rfl
theorem easy10 (x y : Int) : ((List.range' 160 16).all (one x y)) = true := by kernel_rfl
theorem easy11 (x y : Int) : ((List.range' 176 16).all (one x y)) = true := by kernel_rfl
theorem easy12 (x y : Int) : ((List.range' 192 16).all (one x y)) = true := by kernel_rfl
theorem easy13 (x y : Int) : ((List.range' 208 16).all (one x y)) = true := by kernel_rfl
theorem easy14 (x y : Int) : ((List.range' 224 16).all (one x y)) = true := by kernel_rfl
theorem easy15 (x y : Int) : ((List.range' 240 16).all (one x y)) = true := by kernel_rfl
theorem easy (x y : Int) {k : Nat} (hk : k < 256) : one x y k = true := by
  have at_ : ∀ {a : Nat}, ((List.range' a 16).all (one x y)) = true → a ≤ k → k < a + 16 → one x y k = true := fun h h1 h2 => List.all_eq_true.1 h k (by simp; omega)
  by_cases h8 : k < 128
  · by_cases h4 : k < 64
    · by_cases h2 : k < 32
      · by_cases h1 : k < 16
        · exact at_ (easy0 x y) (by omega) (by omega)
        · exact at_ (easy1 x y) (by omega) (by omega)
      · by_cases h1 : k < 48
        · exact at_ (easy2 x y) (by omega) (by omega)
        · exact at_ (easy3 x y) (by omega) (by omega)
    · by_cases h2 : k < 96
      · by_cases h1 : k < 80
        · exact at_ (easy4 x y) (by omega) (by omega)
        · exact at_ (easy5 x y) (by omega) (by omega)
      · by_cases h1 : k < 112
        · exact at_ (easy6 x y) (by omega) (by omega)
        · exact at_ (easy7 x y) (by omega) (by omega)
  · by_cases h4 : k < 192
    · by_cases h2 : k < 160
      · by_cases h1 : k < 144
        · exact at_ (easy8 x y) (by omega) (by omega)
        · exact at_ (easy9 x y) (by omega) (by omega)
      · by_cases h1 : k < 176
        · exact at_ (easy10 x y) (by omega) (by omega)
        · exact at_ (easy11 x y) (by omega) (by omega)
    · by_cases h2 : k < 224
      · by_cases h1 : k < 208
        · exact at_ (easy12 x y) (by omega) (by omega)
        · exact at_ (easy13 x y) (by omega) (by omega)
      · by_cases h1 : k < 240
        · exact at_ (easy14 x y) (by omega) (by omega)
        · exact at_ (easy15 x y) (by omega) (by omega)
end Go.Proofs.YtjhjlkckchelkaaDoor.boundsSteps
