/- specs.Judge and lives wherever their rows lie. Conditions: those that each theorem names, and no others. -/
import Derived.Test.YthooafgfpnedhaaJud22
import Derived.Test.YthooafgfpnedhaaMini3
namespace Go.Proofs.Ythooafgfpnedhaa.specsJudge
open Go Go.Mini
theorem livR : runX Try.prog none_ 600 17 (.call 17 [] ⟨⟨[], 0, none, []⟩, 4⟩) [] = some ({ e := .ret, ts := [.bool true], s := ⟨⟨[], 0, some 4, []⟩, 98⟩ }, [], []) := by kernel_rfl
theorem livC (s : AS) : Sound Try.prog (.call 17 [] s) ⟨.ret, [.bool true], s⟩ :=
  Sound.put (bs0 := []) (runX_sound mixed none_sound livR trivial) noG (fun b => b) [] s trivial (fun b hb => by cases hb) List.nodup_nil List.nodup_nil (fun b hb => by cases hb) rfl rfl
section
variable {lA : AV} {n : Nat} {row : List AV} {f : Nat → Call9} (W : RwC lA n row f) {opN : Nat → Nat} (hop : ∀ d, d < n → (f d).2.1 = Int.ofNat (opN d))
include W hop
/-- specs.Judge, wherever the rows lie. -/
theorem judgeC : ∃ D' : List Nat, D'.Perm (livesTo f n) ∧ Srt (fun i => atF (f i)) D' ∧ ∀ (s : AS) (ro : Bool) (b0 : Nat), s.get b0 = some (.cells ro row) → Sound Try.prog (.call 21 [lA.ren fun _ => b0] s) ⟨.ret, [judgeV (judgeL f opN D' ([], [], []))], s⟩ := by
  obtain ⟨D', p1, p2, s1, hs⟩ := judge_small W hop
  refine ⟨D', p1, p2, fun s ro b0 h0 => ?_⟩
  have hv : ∀ p, (judgeV (judgeL f opN D' ([], [], []))).names p = true := fun p => by
    unfold judgeV
    split <;> rfl
  have hr : ∀ π : Nat → Nat, (judgeV (judgeL f opN D' ([], [], []))).ren π = judgeV (judgeL f opN D' ([], [], [])) := fun π => by
    unfold judgeV
    split <;> rfl
  have := Sound.putR (bs0 := []) hs noG (fun _ => b0) [] s W.nm ⟨ro, h0⟩ (by decide) trivial (fun b hb => by cases hb) (fun b hb => by cases hb) List.nodup_nil List.nodup_nil (fun b hb => by cases hb) (and2 (W.xn (by decide)) rfl) (hv _)
  rw [hr] at this
  exact this
end
theorem names_calls (p : Nat → Bool) (L : List Call9) : namess p (rowsOf callC L) = true := names_rows (fun _ => rfl) L
theorem freeCalls (L : List Call9) : Free (.cells false (rowsOf callC L)) := ⟨rfl, names_calls _ L⟩
def z9 : Call9 := (0, 0, 0, 0, 0, 0, 0, 0, 0)
end Go.Proofs.Ythooafgfpnedhaa.specsJudge
