/- What the functions of ghosts answer where a row of ghosts lies in memory. Conditions: those that each theorem names, and no others. -/
import Derived.Test.YtipadnlhcnmgaaaDoorStep10
namespace Go.Proofs.YtipadnlhcnmgaaaDoor.ghostsStep
open Go Go.Mini
theorem sli_one {n c k : Nat} (h : k < c) : sliceA Tryd.prog 54 (.slice 2 0 n c) (some (.int .i64 (Int.ofNat k))) (some (.int .i64 (Int.ofNat (k + 1)))) none = some (.slice 2 (k * 5) 1 (c - k)) := by
  have h1 : boundA (some (.int .i64 (Int.ofNat (k + 1)))) n c = some (k + 1) := by
    simp only [boundA]
    rw [if_pos ⟨by simp only [Int.ofNat_eq_natCast]; omega, by simp only [Int.ofNat_eq_natCast]; omega⟩]
    simp
  have h2 : boundA (some (.int .i64 (Int.ofNat k))) 0 (k + 1) = some k := by
    simp only [boundA]
    rw [if_pos ⟨by simp only [Int.ofNat_eq_natCast]; omega, by simp only [Int.ofNat_eq_natCast]; omega⟩]
    simp
  have h3 : boundA none c c = some c := rfl
  simp only [sliceA, t54, z61, h1, h2, h3]
  simp
theorem sli_pre {n c k : Nat} (h : k ≤ c) : sliceA Tryd.prog 54 (.slice 2 0 n c) none (some (.int .i64 (Int.ofNat k))) none = some (.slice 2 0 k c) := by
  have h1 : boundA (some (.int .i64 (Int.ofNat k))) n c = some k := by
    simp only [boundA]
    rw [if_pos ⟨by simp only [Int.ofNat_eq_natCast]; omega, by simp only [Int.ofNat_eq_natCast]; omega⟩]
    simp
  have h2 : boundA none 0 k = some 0 := rfl
  have h3 : boundA none c c = some c := rfl
  simp only [sliceA, t54, z61, h1, h2, h3]
  simp
theorem g59 : isAggA Tryd.prog 59 = some true := by kernel_rfl
theorem z59 : sizeA Tryd.prog 59 = some 3 := by kernel_rfl
theorem ld_ref {L : List Gh} {k : Nat} {s : AS} {ro : Bool} (hs : s.get 2 = some (.cells ro (rowsOf ghC L))) (hk : k < L.length) : loadA Tryd.prog s 59 (.ptr 2 (k * 5 + 2)) = some (.agg [.int .i64 (eL L k).sl, .int .u32 (Int.ofNat (eL L k).gn), .bool (eL L k).mr]) := by
  obtain ⟨r, hr⟩ := rows_at (f := ghC) (n := 5) (fun _ => rfl) (eL_at hk)
  have h2 : (rowsOf ghC L).drop (k * 5 + 2) = [.int .i64 (eL L k).sl, .int .u32 (Int.ofNat (eL L k).gn), .bool (eL L k).mr] ++ r := by
    rw [← List.drop_drop, hr]
    rfl
  simp only [loadA, g59, z59, readA, hs, h2]
  rw [takeN_row (n := 3) rfl]
theorem step_on (L : List Gh) (hL : ∀ k, (eL L k).sl < 9223372036854775808) (o n c : Nat) (h : o + n ≤ L.length) (hn : n < 1000) (a : Ac) (m : Nat) (hw : a.wa < 18446744073709551616) (hv : a.nw < 18446744073709551616) (hm : m < 4294967296)
    (s : AS) (ro : Bool) (hs : s.get 2 = some (.cells ro (rowsOf ghC L))) (hG : hasG s G2 = true) :
    Sound Tryd.prog (.call 22 [.agg (acC a), .slice 2 (o * 5) n c, .int .u32 (Int.ofNat m)] s) ⟨.ret, [.int .u8 (Int.ofNat (stF a m (anyK (fun i => holdP a.pl (hg a.wa) (eL L (o + i))) n) (decide (0 ≤ a.pl ∧ a.pl < 32) && anyK (fun i => segP a.pl (eL L (o + i))) n)))], s⟩ :=
  on_rows2 (step_call _ n L (fun k => eL L (o + k)) (row_of h hn) rfl (fun _ _ => hL _) a m hw hv hm) rfl s ro hs hG
theorem hold_on (L : List Gh) (n c : Nat) (h : n ≤ L.length) (hn : n < 1000) (sl : Int) (gn : Nat) (mk : Bool) (s : AS) (ro : Bool) (hs : s.get 2 = some (.cells ro (rowsOf ghC L))) :
    Sound Tryd.prog (.call 23 [.slice 2 0 n c, .agg [.int .i64 sl, .int .u32 (Int.ofNat gn), .bool mk]] s) ⟨.ret, [.bool (anyK (fun k => holdP sl gn (eL L (0 + k))) n)], s⟩ :=
  on_rows (hold_call (.slice 2 (0 * 5) n c) n L (fun k => eL L (0 + k)) (row_of (by omega) hn) sl gn mk) rfl s ro hs
theorem seg_on (L : List Gh) (hL : ∀ k, (eL L k).sl < 9223372036854775808) (n c : Nat) (h : n ≤ L.length) (hn : n < 1000) (sg : Int) (s : AS) (ro : Bool) (hs : s.get 2 = some (.cells ro (rowsOf ghC L))) :
    Sound Tryd.prog (.call 24 [.slice 2 0 n c, .int .i64 sg] s) ⟨.ret, [.bool (decide (0 ≤ sg ∧ sg < 32) && anyK (fun k => segP sg (eL L (0 + k))) n)], s⟩ :=
  on_rows (seg_call (.slice 2 (0 * 5) n c) n L (fun k => eL L (0 + k)) (row_of (by omega) hn) (fun k _ => hL _) sg) rfl s ro hs
end Go.Proofs.YtipadnlhcnmgaaaDoor.ghostsStep
