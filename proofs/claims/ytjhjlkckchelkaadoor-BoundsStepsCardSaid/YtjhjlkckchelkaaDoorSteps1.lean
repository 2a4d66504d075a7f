/- Proved: what the chapter counts, and lives, answer, as calls of the given program; for every number, in every state that holds the laid table. -/
import Derived.Test.YtjhjlkckchelkaaDoorMini2
import Derived.Test.YtjhjlkckchelkaaDoorChecked
namespace Go.Proofs.YtjhjlkckchelkaaDoor.boundsSteps
open Go.Mini

theorem mixed : Tryd.prog.follows .mixedOrders = true := by kernel_rfl

def wf : List AV := [0,16,16,32,16,48,0,3,3,32,0,3,3,3,6,3,16,48,0,32,32,1].map (AV.int .u64)
def clampI (x : Int) : Int := if 1048576 < (if 0 > x then 0 else x) then Int.ofNat 1048576 else (if 0 > x then Int.ofNat 0 else x)
def none_ : Go.Mini.Task → Option Res := fun _ => none
theorem none_sound : ∀ t r, none_ t = some r → Sound Tryd.prog t r := fun _ _ h => by cases h

noncomputable def E0 : AS := startS Tryd.prog []

theorem counts0 (x : Int) : ∃ e s1, Sound Tryd.prog (.call 44 [.int .i64 x] E0) ⟨e, [.int .i64 (clampI x)], s1⟩ := by
  by_cases h1 : x < 0
  · have h : callD Tryd.prog none_ 50 44 [.int .i64 x] E0 [⟨1, 1, true⟩] = some (⟨.ret, [.int .i64 0], E0⟩, [⟨decide (x < 0), true⟩]) := by kernel_rfl
    have := callD_sound mixed none_sound h (by intro a ha; simp at ha; subst ha; simpa using h1)
    have e : clampI x = 0 := by unfold clampI; simp only [show 0 > x from h1, if_true]; rfl
    rw [e]
    exact ⟨_, _, this⟩
  · by_cases h2 : 1048576 < x
    · have h : callD Tryd.prog none_ 50 44 [.int .i64 x] E0 [⟨1, 1, false⟩, ⟨3, 1, true⟩] = some (⟨.ret, [.int .i64 1048576], E0⟩, [⟨decide (x < 0), false⟩, ⟨decide (x > 1048576), true⟩]) := by kernel_rfl
      have := callD_sound mixed none_sound h (by intro a ha; simp at ha; rcases ha with rfl | rfl <;> simp <;> omega)
      have e : clampI x = 1048576 := by unfold clampI; rw [if_neg (show ¬ 0 > x from h1), if_pos h2]; rfl
      rw [e]
      exact ⟨_, _, this⟩
    · have h : callD Tryd.prog none_ 50 44 [.int .i64 x] E0 [⟨1, 1, false⟩, ⟨3, 1, false⟩] = some (⟨.ret, [.int .i64 x], E0⟩, [⟨decide (x < 0), false⟩, ⟨decide (x > 1048576), false⟩]) := by kernel_rfl
      have := callD_sound mixed none_sound h (by intro a ha; simp at ha; rcases ha with rfl | rfl <;> simp <;> omega)
      have e : clampI x = x := by unfold clampI; simp only [show ¬ 0 > x from h1, if_false, h2]
      rw [e]
      exact ⟨_, _, this⟩
theorem counts (x : Int) (s : AS) : Sound Tryd.prog (.call 44 [.int .i64 x] s) ⟨.ret, [.int .i64 (clampI x)], s⟩ := by
  obtain ⟨e, s1, h⟩ := counts0 x
  exact Sound.pure h rfl rfl rfl rfl

def G : List (Nat × List AV) := [(0, wf)]
theorem lives0 : ∃ e s1, Sound Tryd.prog (.call 9 [] (startS Tryd.prog G)) ⟨e, [.bool true], s1⟩ := by
  have h : (match runH Tryd.prog none_ 1000 (.call 9 [] (startS Tryd.prog G)) with
    | some ⟨_, [.bool true], _⟩ => true
    | _ => false) = true := by kernel_rfl
  split at h
  · rename_i e s1 hr
    exact ⟨e, s1, runH_sound mixed none_sound _ _ _ hr⟩
  · cases h
theorem lives (s : AS) (hs : hasG s G = true) : Sound Tryd.prog (.call 9 [] s) ⟨.ret, [.bool true], s⟩ := by
  obtain ⟨e, s1, h⟩ := lives0
  exact Sound.pure h (by kernel_rfl) rfl rfl hs

def hk : Go.Mini.Task → Option Res
  | .call f args s => if Nat.beq f 44 then (match args with
      | [.int .i64 x] => some ⟨.ret, [.int .i64 (clampI x)], s⟩
      | _ => none) else if Nat.beq f 9 then (match args with
      | [] => if hasG s G then some ⟨.ret, [.bool true], s⟩ else none
      | _ => none) else none
  | _ => none
theorem hk_sound : ∀ t r, hk t = some r → Sound Tryd.prog t r := by
  intro t r h
  cases t with
  | code => cases h
  | call f args s =>
    simp only [hk] at h
    split at h
    · rename_i hf
      have := Nat.eq_of_beq_eq_true hf
      subst this
      split at h
      · simp only [Option.some.injEq] at h
        subst h
        exact counts _ s
      · cases h
    · split at h
      · rename_i _ hf
        have := Nat.eq_of_beq_eq_true hf
        subst this
        split at h
        · split at h
          · simp only [Option.some.injEq] at h
            subst h
            exact lives s ‹_›
          · cases h
        · cases h
      · cases h
end Go.Proofs.YtjhjlkckchelkaaDoor.boundsSteps
