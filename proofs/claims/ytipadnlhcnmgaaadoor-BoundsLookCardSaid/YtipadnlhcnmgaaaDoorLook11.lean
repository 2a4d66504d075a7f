/- Rows that came in, and their copies. Conditions: those that each theorem names, and no others. -/
import Derived.Test.YtipadnlhcnmgaaaDoorLook9
namespace Go.Proofs.YtipadnlhcnmgaaaDoor.boundsLook
open Go Go.Mini
theorem idx_oslB {P : Program} {t elem : TypeId} {b o len esz k sz : Nat} {kk : IntKind} (h1 : P.underlying t = some (.slice elem)) (h2 : sizeA P elem = some sz) (hk : k < len) :
    indexAddrA P t (.osl b o len esz) (.int kk (Int.ofNat k)) = some (.ptr b (o + k * sz)) := by
  simp only [indexAddrA, h1, h2]
  rw [if_pos ⟨by simp, by simpa using hk⟩]
  simp
theorem getElem_take {α : Type} {L : List α} {n k : Nat} (h : k < n) : (L.take n)[k]? = L[k]? := List.getElem?_take_of_lt h
section
variable {α : Type} {fC : α → List AV} {sz : Nat} {t elem : TypeId} {val : α → AV} {d : α}
  (ht : Tryd.prog.underlying t = some (.slice elem)) (hz : sizeA Tryd.prog elem = some sz) (hn : ∀ (p : Nat → Bool) x, namess p (fC x) = true)
  (hld : ∀ (s : AS) (b : Nat) (ro : Bool) (L : List α) (k : Nat) (x : α), s.get b = some (.cells ro (rowsOf fC L)) → L[k]? = some x → loadA Tryd.prog s elem (.ptr b (k * sz)) = some (val x))
include ht hz hn hld
theorem fam_slice (L : List α) (n c : Nat) (h : n ≤ L.length) (hs : n < 1000) : Fam t elem (fun b => .slice b 0 n c) (rowsOf fC L) n (fun k => val ((L[k]?).getD d)) where
  ren π b := rfl
  nm b N h := by show Nat.blt b N = true; simpa using h
  cl := names_rows (hn _) L
  row b := ⟨fun s => by simp only [lenA, ht]; rfl, fun k hk => by
    refine ⟨k * sz, ?_, fun s ro hs => ?_⟩
    · have := idx_slice (P := Tryd.prog) (b := b) (o := 0) (cap := c) (kk := .i64) ht hz hk
      rwa [Nat.zero_add] at this
    · have hx : L[k]? = some ((L[k]?).getD d) := by
        rw [List.getElem?_eq_getElem (by omega)]
        rfl
      exact hld s b ro L k _ hs hx, hs, ⟨rfl, rfl⟩⟩
theorem fam_osl (L : List α) (n : Nat) (h : n ≤ L.length) (hs : n < 1000) : Fam t elem (fun b => .osl b 0 n sz) (rowsOf fC (L.take n)) n (fun k => val ((L[k]?).getD d)) where
  ren π b := rfl
  nm b N h := by show Nat.blt b N = true; simpa using h
  cl := names_rows (hn _) _
  row b := ⟨fun s => by simp only [lenA, ht]; rfl, fun k hk => by
    refine ⟨k * sz, ?_, fun s ro hs => ?_⟩
    · have := idx_oslB (P := Tryd.prog) (b := b) (o := 0) (esz := sz) (kk := .i64) ht hz hk
      rwa [Nat.zero_add] at this
    · have hx : (L.take n)[k]? = some ((L[k]?).getD d) := by
        rw [getElem_take hk, List.getElem?_eq_getElem (by omega)]
        rfl
      exact hld s b ro _ k _ hs hx, hs, ⟨rfl, rfl⟩⟩
omit hz hn hld in
theorem fam_nil (cs : List AV) (hcs : namess (fun _ => false) cs = true) (f : Nat → AV) : Fam t elem (fun _ => .nilSlice) cs 0 f where
  ren π b := rfl
  nm b N h := rfl
  cl := hcs
  row b := ⟨fun s => by simp only [lenA, ht]; rfl, fun k hk => by omega, by decide, ⟨rfl, rfl⟩⟩
end
def wcellB (w : Nat) : List AV := [.int .u64 (Int.ofNat w)]
theorem t27B : Tryd.prog.underlying 27 = some (.slice 24) := by kernel_rfl
theorem z24B : sizeA Tryd.prog 24 = some 1 := by kernel_rfl
theorem g24B : isAggA Tryd.prog 24 = some false := by kernel_rfl
theorem t28B : Tryd.prog.underlying 28 = some (.slice 97) := by kernel_rfl
theorem z97B : sizeA Tryd.prog 97 = some 6 := by kernel_rfl
theorem g97B : isAggA Tryd.prog 97 = some true := by kernel_rfl
theorem ldH (s : AS) (b : Nat) (ro : Bool) (L : List Nat) (k : Nat) (x : Nat) (hs : s.get b = some (.cells ro (rowsOf wcellB L))) (hk : L[k]? = some x) : loadA Tryd.prog s 24 (.ptr b (k * 1)) = some (.int .u64 (Int.ofNat x)) :=
  ld_rowCell (P := Tryd.prog) (f := wcellB) (n := 1) (i := 0) (fun _ => rfl) g24B hs hk rfl
theorem ldE (s : AS) (b : Nat) (ro : Bool) (L : List En) (k : Nat) (x : En) (hs : s.get b = some (.cells ro (rowsOf enC L))) (hk : L[k]? = some x) : loadA Tryd.prog s 97 (.ptr b (k * 6)) = some (.agg (enC x)) :=
  ld_row (P := Tryd.prog) (f := enC) (n := 6) (fun _ => rfl) g97B z97B hs hk
theorem ldT (s : AS) (b : Nat) (ro : Bool) (L : List Th) (k : Nat) (x : Th) (hs : s.get b = some (.cells ro (rowsOf thC L))) (hk : L[k]? = some x) : loadA Tryd.prog s 101 (.ptr b (k * 10)) = some (.agg (thC x)) :=
  ld_row (P := Tryd.prog) (f := thC) (n := 10) (fun _ => rfl) g101 z101 hs hk
def wdL (L : List Nat) (k : Nat) : Nat := (L[k]?).getD 0
def enL (L : List En) (k : Nat) : En := (L[k]?).getD en0
def thL (L : List Th) (k : Nat) : Th := (L[k]?).getD th0
theorem famH_s (L : List Nat) (n c : Nat) (h : n ≤ L.length) (hs : n < 1000) : Fam 27 24 (fun b => .slice b 0 n c) (rowsOf wcellB L) n (fun k => .int .u64 (Int.ofNat (wdL L k))) :=
  fam_slice (val := fun w => .int .u64 (Int.ofNat w)) (d := 0) t27B z24B (fun _ _ => rfl) ldH L n c h hs
theorem famH_o (L : List Nat) (n : Nat) (h : n ≤ L.length) (hs : n < 1000) : Fam 27 24 (fun b => .osl b 0 n 1) (rowsOf wcellB (L.take n)) n (fun k => .int .u64 (Int.ofNat (wdL L k))) :=
  fam_osl (val := fun w => .int .u64 (Int.ofNat w)) (d := 0) t27B z24B (fun _ _ => rfl) ldH L n h hs
theorem famE_s (L : List En) (n c : Nat) (h : n ≤ L.length) (hs : n < 1000) : Fam 28 97 (fun b => .slice b 0 n c) (rowsOf enC L) n (fun k => .agg (enC (enL L k))) :=
  fam_slice (val := fun e => .agg (enC e)) (d := en0) t28B z97B (fun _ _ => rfl) ldE L n c h hs
theorem famE_o (L : List En) (n : Nat) (h : n ≤ L.length) (hs : n < 1000) : Fam 28 97 (fun b => .osl b 0 n 6) (rowsOf enC (L.take n)) n (fun k => .agg (enC (enL L k))) :=
  fam_osl (val := fun e => .agg (enC e)) (d := en0) t28B z97B (fun _ _ => rfl) ldE L n h hs
theorem famT_s (L : List Th) (n c : Nat) (h : n ≤ L.length) (hs : n < 1000) : Fam 29 101 (fun b => .slice b 0 n c) (rowsOf thC L) n (fun k => .agg (thC (thL L k))) :=
  fam_slice (val := fun e => .agg (thC e)) (d := th0) t29 z101 (fun _ _ => rfl) ldT L n c h hs
theorem famT_o (L : List Th) (n : Nat) (h : n ≤ L.length) (hs : n < 1000) : Fam 29 101 (fun b => .osl b 0 n 10) (rowsOf thC (L.take n)) n (fun k => .agg (thC (thL L k))) :=
  fam_osl (val := fun e => .agg (thC e)) (d := th0) t29 z101 (fun _ _ => rfl) ldT L n h hs
theorem thL_at {L : List Th} {k : Nat} (h : k < L.length) : L[k]? = some (thL L k) := by
  unfold thL
  rw [List.getElem?_eq_getElem h]
  rfl
theorem cut_ix (k : Nat) (h : k = 0) (y : AV) (b o : Nat) (hy : indexAddrA Tryd.prog 29 y (.int .i64 (Int.ofNat 0)) = some (.ptr b (o + 0 * 10))) : indexAddrA Tryd.prog 29 y (.int .i64 (Int.ofNat k)) = some (.ptr b o) := by
  subst h
  rw [hy, Nat.zero_mul, Nat.add_zero]
theorem trow_s (L : List Th) (n c : Nat) (h : n ≤ L.length) (hc : n ≤ c) (hs : n < 1000) : TRow (.slice 3 0 n c) n (rowsOf thC L) (thL L) where
  row := (famT_s L n c h hs).row 3
  cut i hi := by
    refine .inl ⟨i * 10, c - i, ?_, fun s => by simp only [lenA, t29]; rfl, fun k hk => ?_, by decide, ⟨rfl, rfl⟩⟩
    · have h1 : boundA (some (.int .i64 (Int.ofNat (i + 1)))) n c = some (i + 1) := by
        simp only [boundA]
        rw [if_pos ⟨by simp only [Int.ofNat_eq_natCast]; omega, by simp only [Int.ofNat_eq_natCast]; omega⟩]
        simp
      have h2 : boundA (some (.int .i64 (Int.ofNat i))) 0 (i + 1) = some i := by
        simp only [boundA]
        rw [if_pos ⟨by simp only [Int.ofNat_eq_natCast]; omega, by simp only [Int.ofNat_eq_natCast]; omega⟩]
        simp
      have h3 : boundA none c c = some c := rfl
      simp only [sliceA, t29, z101, h1, h2, h3]
      simp
    · refine ⟨i * 10, cut_ix k (by omega) _ 2 (i * 10) (idx_slice (P := Tryd.prog) (b := 2) (o := i * 10) (cap := c - i) (kk := .i64) t29 z101 (by decide)), fun s ro hs => ldT s 2 ro L i _ hs (thL_at (by omega))⟩
theorem trow_o (L : List Th) (n : Nat) (h : n ≤ L.length) (hs : n < 1000) : TRow (.osl 3 0 n 10) n (rowsOf thC (L.take n)) (thL L) where
  row := (famT_o L n h hs).row 3
  cut i hi := by
    refine .inr ⟨i * 10, ?_, fun s => by simp only [lenA, t29]; rfl, fun k hk => ?_, by decide, ⟨rfl, rfl⟩⟩
    · have h1 : boundA (some (.int .i64 (Int.ofNat (i + 1)))) n n = some (i + 1) := by
        simp only [boundA]
        rw [if_pos ⟨by simp only [Int.ofNat_eq_natCast]; omega, by simp only [Int.ofNat_eq_natCast]; omega⟩]
        simp
      have h2 : boundA (some (.int .i64 (Int.ofNat i))) 0 (i + 1) = some i := by
        simp only [boundA]
        rw [if_pos ⟨by simp only [Int.ofNat_eq_natCast]; omega, by simp only [Int.ofNat_eq_natCast]; omega⟩]
        simp
      have hb : Nat.beq 10 10 = true := rfl
      simp only [sliceA, t29, z101, hb, if_true, h1, h2]
      simp
    · refine ⟨i * 10, cut_ix k (by omega) _ 2 (i * 10) (idx_oslB (P := Tryd.prog) (b := 2) (o := i * 10) (esz := 10) (kk := .i64) t29 z101 (by decide)), fun s ro hs => ldT s 2 ro _ i _ hs ?_⟩
      rw [getElem_take hi]
      exact thL_at (by omega)
theorem trow_n (cs : List AV) (th : Nat → Th) : TRow .nilSlice 0 cs th where
  row := ⟨fun s => by simp only [lenA, t29]; rfl, fun k hk => by omega, by decide, ⟨rfl, rfl⟩⟩
  cut i hi := by omega
end Go.Proofs.YtipadnlhcnmgaaaDoor.boundsLook
